/- Plain: what a bounded store of answers, the one unused longest going first, has to do with what was laid and used. No program in sight. -/
import Derived.Test.YteboancapfgdeaaCcDoesP
namespace Go.Proofs.Cc
open Go Go.RowKit

section
variable {K V : Type} [DecidableEq K]

def ins (acc : List K) (k : K) : List K := if k ∈ acc then acc else k :: acc
def distinct (l : List K) : List K := l.foldl ins []
def since (U : List K) (x : K) : List K := U.reverse.takeWhile (fun y => decide (y ≠ x))
def cnt (U : List K) (x : K) : Nat := (distinct (since U x)).length

theorem foldl_ins : ∀ (l acc : List K), acc.Nodup → (l.foldl ins acc).Nodup ∧ ∀ y, y ∈ l.foldl ins acc ↔ y ∈ acc ∨ y ∈ l
  | [], acc, h => ⟨h, fun y => by simp⟩
  | k :: l, acc, h => by
    have h1 : (ins acc k).Nodup := by
      unfold ins
      split
      · exact h
      · exact List.nodup_cons.2 ⟨‹_›, h⟩
    have h2 : ∀ y, y ∈ ins acc k ↔ y ∈ acc ∨ y = k := fun y => by
      unfold ins
      split
      · rename_i hk
        exact ⟨.inl, fun h => h.elim id (fun e => e ▸ hk)⟩
      · rw [List.mem_cons, or_comm]
    obtain ⟨h3, h4⟩ := foldl_ins l (ins acc k) h1
    refine ⟨h3, fun y => ?_⟩
    rw [List.foldl_cons, h4, h2, List.mem_cons, or_assoc]

theorem len_sub : ∀ {A B : List K}, A.Nodup → (∀ x ∈ A, x ∈ B) → A.length ≤ B.length
  | [], B, _, _ => Nat.zero_le _
  | a :: A, B, hA, h => by
    obtain ⟨hna, hA⟩ := List.nodup_cons.1 hA
    have ha := h a (by simp)
    have := len_sub (B := B.erase a) hA (fun x hx => (List.mem_erase_of_ne (fun e : x = a => hna (e ▸ hx))).2 (h x (by simp [hx])))
    rw [List.length_erase_of_mem ha] at this
    have := List.length_pos_of_mem ha
    simp
    omega

theorem mem_distinct (l : List K) (y : K) : y ∈ distinct l ↔ y ∈ l := by
  unfold distinct
  rw [(foldl_ins l [] List.nodup_nil).2]
  simp
theorem nodup_distinct (l : List K) : (distinct l).Nodup := (foldl_ins l [] List.nodup_nil).1

theorem since_app (U : List K) (x y : K) : since (U ++ [y]) x = if y = x then [] else y :: since U x := by
  unfold since
  rw [List.reverse_append, List.reverse_singleton, List.singleton_append, List.takeWhile_cons]
  by_cases h : y = x
  · simp [h]
  · simp [h]

theorem cnt_mono {U : List K} {x y : K} (h : y ≠ x) : cnt U x ≤ cnt (U ++ [y]) x := by
  unfold cnt
  rw [since_app, if_neg h]
  refine len_sub (nodup_distinct _) (fun z hz => ?_)
  rw [mem_distinct] at hz ⊢
  exact List.mem_cons_of_mem _ hz

/-- Whoever stands ahead of x was used behind x. -/
def Recent (U L : List K) : Prop := ∀ p x q, L = p ++ x :: q → ∀ y ∈ p, y ∈ since U x

omit [DecidableEq K] in
theorem filter_split (f : K → Bool) : ∀ (L p : List K) (x : K) (q : List K), L.filter f = p ++ x :: q → ∃ P Q, L = P ++ x :: Q ∧ ∀ y ∈ p, y ∈ P
  | [], p, x, q, h => by simp at h
  | a :: L, p, x, q, h => by
    rw [List.filter_cons] at h
    split at h
    · cases p with
      | nil =>
        simp at h
        exact ⟨[], L, by simp [h.1], by simp⟩
      | cons b p =>
        simp at h
        obtain ⟨P, Q, h1, h2⟩ := filter_split f L p x q h.2
        refine ⟨a :: P, Q, by simp [h1], fun y hy => ?_⟩
        rcases List.mem_cons.1 hy with rfl | hy
        · rw [h.1]; simp
        · exact List.mem_cons_of_mem _ (h2 y hy)
    · obtain ⟨P, Q, h1, h2⟩ := filter_split f L p x q h
      exact ⟨a :: P, Q, by simp [h1], fun y hy => List.mem_cons_of_mem _ (h2 y hy)⟩

theorem Recent.filter {U L : List K} (h : Recent U L) (f : K → Bool) : Recent U (L.filter f) := fun p x q e y hy => by
  obtain ⟨P, Q, h1, h2⟩ := filter_split f L p x q e
  exact h P x Q h1 y (h2 y hy)

theorem Recent.use {U L : List K} (h : Recent U L) (k : K) : Recent (U ++ [k]) (k :: L.filter (fun y => decide (y ≠ k))) := fun p x q e y hy => by
  cases p with
  | nil => simp at hy
  | cons a p =>
    injection e with e0 e
    subst e0
    have hx : x ∈ L.filter (fun y => decide (y ≠ k)) := by rw [e]; simp
    have hxk : x ≠ k := by simpa using (List.mem_filter.1 hx).2
    rw [since_app, if_neg (Ne.symm hxk)]
    rcases List.mem_cons.1 hy with rfl | hy
    · simp
    · exact List.mem_cons_of_mem _ (h.filter _ p x q e y hy)

theorem Recent.front {U p r : List K} (h : Recent U (p ++ r)) : Recent U p := fun a x b e y hy => h a x (b ++ r) (by rw [e]; simp) y hy

theorem Recent.le {U p q : List K} {x : K} (h : Recent U (p ++ x :: q)) (hn : p.Nodup) : p.length ≤ cnt U x := by
  unfold cnt
  exact len_sub hn (fun y hy => (mem_distinct _ _).2 (h p x q rfl y hy))

def upd (F : K → Option V) (k : K) (o : Option V) : K → Option V := fun x => if x = k then o else F x

structure TrueInv (most : Nat) (D : List (K × V)) (F : K → Option V) (U : List K) : Prop where
  nod : (D.map (·.1)).Nodup
  len : D.length ≤ most
  sub : ∀ p ∈ D, F p.1 = some p.2
  recent : Recent U (D.map (·.1))
  out : ∀ x, (F x).isSome → x ∉ D.map (·.1) → most ≤ cnt U x

variable {most : Nat} {D : List (K × V)} {F : K → Option V} {U : List K}

theorem keys_rmD (k : K) (D : List (K × V)) : (rmD k D).map (·.1) = (D.map (·.1)).filter (fun y => decide (y ≠ k)) := by
  unfold rmD
  rw [List.filter_map]
  rfl

theorem TrueInv.nil (most : Nat) : TrueInv (K := K) (V := V) most [] (fun _ => none) [] :=
  ⟨List.nodup_nil, Nat.zero_le _, by simp, fun p x q e => by simp at e, fun x h => by simp at h⟩

theorem TrueInv.drop (I : TrueInv most D F U) (k : K) : TrueInv most (rmD k D) (upd F k none) U where
  nod := by rw [keys_rmD]; exact I.nod.filter _
  len := Nat.le_trans (List.length_filter_le _ _) I.len
  sub p hp := by
    obtain ⟨h1, h2⟩ := List.mem_filter.1 hp
    unfold upd
    rw [if_neg (by simpa using h2)]
    exact I.sub p h1
  recent := by rw [keys_rmD]; exact I.recent.filter _
  out x hx hn := by
    unfold upd at hx
    split at hx
    · simp at hx
    · rename_i hxk
      refine I.out x hx (fun h => hn ?_)
      rw [keys_rmD]
      exact List.mem_filter.2 ⟨h, by simpa using hxk⟩

theorem TrueInv.miss (I : TrueInv most D F U) {k : K} (hk : k ∉ D.map (·.1)) : TrueInv most D (upd F k none) U := by
  have h := I.drop k
  have e : rmD k D = D := by
    unfold rmD
    rw [List.filter_eq_self]
    intro p hp
    have : p.1 ≠ k := fun x => hk (x ▸ List.mem_map_of_mem hp)
    simp [this]
  rwa [e] at h

theorem TrueInv.put (I : TrueInv most D F U) (k : K) (v : V) : TrueInv most (putD most k v D) (upd F k (some v)) (U ++ [k]) := by
  have hkeys : ((k, v) :: rmD k D).map (·.1) = k :: (D.map (·.1)).filter (fun y => decide (y ≠ k)) := by rw [List.map_cons, keys_rmD]
  have hrec : Recent (U ++ [k]) (((k, v) :: rmD k D).map (·.1)) := by rw [hkeys]; exact I.recent.use k
  have hnod : (((k, v) :: rmD k D).map (·.1)).Nodup := by
    rw [hkeys]
    exact List.nodup_cons.2 ⟨by simp, I.nod.filter _⟩
  have hlen : ((k, v) :: rmD k D).length ≤ most + 1 := by
    have := List.length_filter_le (fun p : K × V => decide (p.1 ≠ k)) D
    have := I.len
    unfold rmD
    rw [List.length_cons]
    omega
  have hsub : ∀ p ∈ (k, v) :: rmD k D, upd F k (some v) p.1 = some p.2 := by
    intro p hp
    unfold upd
    rcases List.mem_cons.1 hp with rfl | hp
    · simp
    · obtain ⟨h1, h2⟩ := List.mem_filter.1 hp
      rw [if_neg (by simpa using h2)]
      exact I.sub p h1
  have hmem : ∀ x, x ∈ D.map (·.1) → x ∈ ((k, v) :: rmD k D).map (·.1) := by
    intro x hx
    rw [hkeys]
    by_cases e : x = k
    · simp [e]
    · exact List.mem_cons_of_mem _ (List.mem_filter.2 ⟨hx, by simpa using e⟩)
  have hk : k ∈ ((k, v) :: rmD k D).map (·.1) := by simp
  have hfirst : ((k, v) :: rmD k D).head? = some (k, v) := rfl
  unfold putD
  generalize (k, v) :: rmD k D = L at *
  split
  · rename_i hm
    have hne : L ≠ [] := by intro e; rw [e] at hm; simp at hm
    obtain ⟨p, x, rfl⟩ : ∃ p x, L = p ++ [x] := ⟨L.dropLast, L.getLast hne, (List.dropLast_concat_getLast hne).symm⟩
    rw [List.dropLast_concat]
    rw [List.map_append, List.map_cons, List.map_nil] at hrec hnod hmem hk
    have hp : most ≤ p.length := by simp at hm; omega
    have hpn := (List.nodup_append.1 hnod).1
    have hxn : x.1 ∉ p.map (·.1) := fun h => (List.nodup_append.1 hnod).2.2 x.1 h x.1 (by simp) rfl
    refine ⟨hpn, by simp at hlen; omega, fun y hy => hsub y (by simp [hy]), hrec.front, fun y hy hny => ?_⟩
    have hc := hrec.le hpn
    rw [List.length_map] at hc
    by_cases hyx : y = x.1
    · rw [hyx]; omega
    · by_cases hyk : y = k
      · exfalso
        rw [← hyk] at hk
        rcases List.mem_append.1 hk with h | h
        · exact hny h
        · simp at h; exact hyx h
      · unfold upd at hy
        rw [if_neg hyk] at hy
        refine Nat.le_trans (I.out y hy (fun h => ?_)) (cnt_mono (Ne.symm hyk))
        rcases List.mem_append.1 (hmem y h) with h | h
        · exact hny h
        · simp at h; exact hyx h
  · rename_i hm
    refine ⟨hnod, by omega, hsub, hrec, fun y hy hny => ?_⟩
    have hyk : y ≠ k := fun e => hny (e ▸ hk)
    unfold upd at hy
    rw [if_neg hyk] at hy
    exact Nat.le_trans (I.out y hy (fun h => hny (hmem y h))) (cnt_mono (Ne.symm hyk))

theorem TrueInv.hit (I : TrueInv most D F U) {p q : List (K × V)} {k : K} {v : V} (hD : D = p ++ (k, v) :: q) : TrueInv most ((k, v) :: (p ++ q)) F (U ++ [k]) := by
  have hn := I.nod
  rw [hD, List.map_append, List.map_cons] at hn
  have hn2 := List.nodup_append.1 hn
  have hn3 := List.nodup_cons.1 hn2.2.1
  have hf : (D.map (·.1)).filter (fun y => decide (y ≠ k)) = (p ++ q).map (·.1) := by
    rw [hD, List.map_append, List.map_cons, List.filter_append, List.filter_cons, List.map_append]
    simp only [ne_eq, not_true_eq_false, decide_false, Bool.false_eq_true, ↓reduceIte]
    rw [List.filter_eq_self.2, List.filter_eq_self.2]
    · intro a ha
      have : a ≠ k := fun e => hn3.1 (e ▸ ha)
      simpa using this
    · intro a ha
      have : a ≠ k := fun e => hn2.2.2 a ha k (by simp) e
      simpa using this
  have hperm : ∀ x, x ∈ D.map (·.1) ↔ x = k ∨ x ∈ (p ++ q).map (·.1) := fun x => by
    rw [hD, List.map_append, List.map_cons, List.map_append, List.mem_append, List.mem_append, List.mem_cons]
    exact ⟨fun h => h.elim (fun h => .inr (.inl h)) (fun h => h.elim .inl (fun h => .inr (.inr h))), fun h => h.elim (fun h => .inr (.inl h)) (fun h => h.elim .inl (fun h => .inr (.inr h)))⟩
  refine ⟨?_, ?_, fun y hy => I.sub y ?_, ?_, fun x hx hnx => ?_⟩
  · rw [List.map_cons, ← hf]
    exact List.nodup_cons.2 ⟨by simp, I.nod.filter _⟩
  · have := I.len
    rw [hD] at this
    simp at this ⊢
    omega
  · rw [hD]
    simp at hy ⊢
    rcases hy with h | h | h
    · exact .inr (.inl h)
    · exact .inl h
    · exact .inr (.inr h)
  · rw [List.map_cons, ← hf]
    exact I.recent.use k
  · rw [List.map_cons, List.mem_cons] at hnx
    have hxk : x ≠ k := fun e => hnx (.inl e)
    exact Nat.le_trans (I.out x hx (fun h => hnx ((hperm x).1 h))) (cnt_mono (Ne.symm hxk))
end
end Go.Proofs.Cc
