/- Plain law: levels and their texts. No program in sight. -/
import Derived.Test.YtmjpnpnmhacknaaTpSpec
namespace Go.Proofs.Tp
open Go

/-- A text cut at its slashes. -/
def split : List UInt8 → List (List UInt8)
  | [] => [[]]
  | c :: r => if c = 47 then [] :: split r else match split r with | [] => [[c]] | h :: t => (c :: h) :: t

theorem split_cons (c : UInt8) (r : List UInt8) : split (c :: r) = if c = 47 then [] :: split r else match split r with | [] => [[c]] | h :: t => (c :: h) :: t := by rw [split]

theorem split_ne (l : List UInt8) : split l ≠ [] := by
  cases l with
  | nil => simp [split]
  | cons c r => unfold split; split <;> (try split) <;> simp

theorem split_plain : ∀ (a : List UInt8), 47 ∉ a → split a = [a]
  | [], _ => rfl
  | c :: r, h => by
    have h1 : c ≠ 47 := fun e => h (by rw [e]; exact List.mem_cons_self)
    have ih := split_plain r (fun e => h (List.mem_cons_of_mem _ e))
    unfold split
    rw [if_neg h1, ih]

theorem split_cut : ∀ (a b : List UInt8), split (a ++ 47 :: b) = split a ++ split b
  | [], b => by simp [split]
  | c :: r, b => by
    have ih := split_cut r b
    rw [List.cons_append, split_cons, split_cons]
    by_cases h : c = 47
    · rw [if_pos h, if_pos h, ih]; rfl
    · rw [if_neg h, if_neg h, ih]
      cases hs : split r with
      | nil => exact absurd hs (split_ne r)
      | cons x t => rfl

theorem join_split : ∀ (l : List UInt8), Lib.join (split l) [47] = l
  | [] => rfl
  | c :: r => by
    have ih := join_split r
    unfold split
    by_cases h : c = 47
    · rw [if_pos h, h]
      cases hs : split r with
      | nil => exact absurd hs (split_ne r)
      | cons x t =>
        rw [hs] at ih
        rw [Lib.join_cons] at ih ⊢
        simp only [Lib.joinTail, List.map_cons, List.flatten_cons, List.nil_append, List.cons_append] at ih ⊢
        rw [ih]
    · rw [if_neg h]
      cases hs : split r with
      | nil => exact absurd hs (split_ne r)
      | cons x t =>
        rw [hs] at ih
        rw [Lib.join_cons] at ih ⊢
        rw [List.cons_append, ih]

/-- No level bears a slash. -/
theorem split_noslash : ∀ (l x : List UInt8), x ∈ split l → 47 ∉ x
  | [], x, h => by simp [split] at h; subst h; simp
  | c :: r, x, h => by
    unfold split at h
    by_cases hc : c = 47
    · rw [if_pos hc] at h
      rcases List.mem_cons.1 h with rfl | h
      · simp
      · exact split_noslash r x h
    · rw [if_neg hc] at h
      cases hs : split r with
      | nil => exact absurd hs (split_ne r)
      | cons y t =>
        rw [hs] at h
        rcases List.mem_cons.1 h with rfl | h
        · intro hm
          rcases List.mem_cons.1 hm with e | hm
          · exact hc e.symm
          · exact split_noslash r y (by rw [hs]; exact List.mem_cons_self) hm
        · exact split_noslash r x (by rw [hs]; exact List.mem_cons_of_mem _ h)

theorem split_join : ∀ (L : List (List UInt8)), L ≠ [] → (∀ x, x ∈ L → 47 ∉ x) → split (Lib.join L [47]) = L
  | [], h, _ => absurd rfl h
  | [x], _, h => by rw [Lib.join_one]; exact split_plain x (h x List.mem_cons_self)
  | x :: y :: r, _, h => by
    have ih := split_join (y :: r) (by simp) (fun z hz => h z (List.mem_cons_of_mem _ hz))
    have e : Lib.join (x :: y :: r) [47] = x ++ 47 :: Lib.join (y :: r) [47] := by
      rw [Lib.join_cons, Lib.join_cons]; simp [Lib.joinTail]
    rw [e, split_cut, ih, split_plain x (h x List.mem_cons_self)]
    rfl

theorem lvTo_split (s : ByteArray) : ∀ n, n ≤ s.size →
    split s.data.toList = (lvTo s n).1.map (·.data.toList) ++ split (s.data.toList.drop (lvTo s n).2) ∧ 47 ∉ (s.data.toList.drop (lvTo s n).2).take (n - (lvTo s n).2)
  | 0, _ => by simp [lvTo]
  | n + 1, hn => by
    obtain ⟨h1, h2⟩ := lvTo_split s n (by omega)
    have hle := (lvTo_le s n).1
    have hlen : s.data.toList.length = s.size := by simp
    rw [lvTo_succ]
    unfold lvStep
    generalize lvTo s n = st at *
    obtain ⟨D, f⟩ := st
    simp only at h1 h2 hle ⊢
    have hd : (s.data.toList.drop f) = (s.data.toList.drop f).take (n - f) ++ s.data.toList.drop n := by
      have := List.take_append_drop (n - f) (s.data.toList.drop f)
      rw [List.drop_drop, show f + (n - f) = n from by omega] at this
      exact this.symm
    have hg : s.data.toList.drop n = s.get! n :: s.data.toList.drop (n + 1) := drop_get s n (by omega)
    by_cases h47 : s.data.toList[n]? = some 47
    · rw [if_pos h47]
      have hg47 : s.get! n = 47 := by
        have := get_toList s n (by omega)
        rw [h47] at this
        exact (Option.some.inj this).symm
      rw [hg, hg47] at hd
      refine ⟨?_, by simp⟩
      simp only
      rw [h1]
      conv => lhs; rw [hd]
      rw [split_cut, split_plain _ h2, List.map_append, List.map_cons, List.map_nil, Lib.extract_data, List.append_assoc]
    · rw [if_neg h47]
      refine ⟨h1, ?_⟩
      simp only
      intro hm
      rw [hd, hg] at hm
      have hl : ((s.data.toList.drop f).take (n - f)).length = n - f := by simp; omega
      rw [show n + 1 - f = (n - f) + 1 from by omega, List.take_append, hl, show n - f + 1 - (n - f) = 1 from by omega, List.mem_append] at hm
      rcases hm with hm | hm
      · exact h2 (List.mem_of_mem_take hm)
      · simp only [List.take_succ_cons, List.take_zero, List.mem_cons, List.not_mem_nil, or_false] at hm
        exact h47 (by rw [get_toList s n (by omega), ← hm])

/-- The levels, as lists of bytes. -/
theorem levels_split (s : ByteArray) : (levels s).map (·.data.toList) = split s.data.toList := by
  obtain ⟨h1, h2⟩ := lvTo_split s s.size (Nat.le_refl _)
  have hle := (lvTo_le s s.size).1
  rw [List.take_of_length_le (by simp)] at h2
  rw [h1, split_plain _ h2]
  unfold levels
  rw [List.map_append, List.map_cons, List.map_nil, extract_drop]

theorem join_levels (s : ByteArray) : Lib.join ((levels s).map (·.data.toList)) [47] = s.data.toList := by rw [levels_split, join_split]

theorem joinT_levels (s : ByteArray) : joinT (levels s) = s := by
  unfold joinT; rw [join_levels]

theorem joinT_data (L : List ByteArray) : (joinT L).data.toList = Lib.join (L.map (·.data.toList)) [47] := rfl

theorem size_eq (s : ByteArray) : s.size = s.data.toList.length := by simp

/-- What stands behind the first two levels is no longer than the whole. -/
theorem inner_size (s : ByteArray) (a g x : ByteArray) (r : List ByteArray) (h : levels s = a :: g :: x :: r) : (joinT (x :: r)).size + 2 ≤ s.size ∧ g.size + 2 ≤ s.size := by
  have hj := join_levels s
  rw [h] at hj
  have e : Lib.join (List.map (·.data.toList) (a :: g :: x :: r)) [47] = a.data.toList ++ 47 :: (g.data.toList ++ 47 :: Lib.join (List.map (·.data.toList) (x :: r)) [47]) := by
    simp only [List.map_cons]
    rw [Lib.join_cons, Lib.join_cons]; simp [Lib.joinTail]
  rw [e] at hj
  rw [size_eq, size_eq, size_eq g, joinT_data, ← hj]
  simp only [List.length_append, List.length_cons]
  omega

theorem need_high {c : Nat} {p : List (Nat × Nat)} (h : need c = some p) : ∀ x, x ∈ p → 128 ≤ x.1 := by
  unfold need at h
  repeat' split at h
  all_goals first
    | (cases h; done)
    | (injection h with h; subst h; intro x hx; simp at hx; done)
    | (injection h with h; subst h; intro x hx; simp at hx; rcases hx with rfl | rfl | rfl <;> decide)
    | (injection h with h; subst h; intro x hx; simp at hx; rcases hx with rfl | rfl <;> decide)
    | (injection h with h; subst h; intro x hx; simp at hx; subst hx; decide)

theorem utf_cut : ∀ (a b : List UInt8) (p : List (Nat × Nat)), (∀ x, x ∈ p → 128 ≤ x.1) → utf p (a ++ 47 :: b) = (utf p a && utf [] b)
  | [], b, [], _ => by rw [List.nil_append, utf_nil]; rfl
  | [], b, q :: p, h => by
    rw [List.nil_append, utf_cons, utf_short]
    have := h q List.mem_cons_self
    have e : (47 : UInt8).toNat = 47 := rfl
    rw [e, decide_eq_false (by omega)]; rfl
  | c :: a, b, [], _ => by
    rw [List.cons_append, utf_nil, utf_nil]
    cases hn : need c.toNat with
    | none => rfl
    | some p => exact utf_cut a b p (need_high hn)
  | c :: a, b, q :: p, h => by
    rw [List.cons_append, utf_cons, utf_cons, utf_cut a b p (fun x hx => h x (List.mem_cons_of_mem _ hx)), Bool.and_assoc, Bool.and_assoc, Bool.and_assoc]

theorem utf_levels : ∀ (L : List (List UInt8)), L ≠ [] → (utf [] (Lib.join L [47]) = L.all (utf []))
  | [], h => absurd rfl h
  | [x], _ => by rw [Lib.join_one]; simp
  | x :: y :: r, _ => by
    have e : Lib.join (x :: y :: r) [47] = x ++ 47 :: Lib.join (y :: r) [47] := by
      rw [Lib.join_cons, Lib.join_cons]; simp [Lib.joinTail]
    rw [e, utf_cut x _ [] (fun _ h => by cases h), utf_levels (y :: r) (by simp)]
    rfl

theorem part_len (L : List (List UInt8)) : ∀ (y : List UInt8), y ∈ L → y.length ≤ (Lib.join L [47]).length := by
  induction L with
  | nil => intro y hy; simp at hy
  | cons z r ih =>
    intro y hy
    rcases List.mem_cons.1 hy with rfl | hy
    · rw [Lib.join_cons]; simp
    · cases r with
      | nil => simp at hy
      | cons z2 r2 =>
        have := ih y hy
        rw [Lib.join_cons] at this ⊢
        simp only [Lib.joinTail, List.map_cons, List.flatten_cons, List.length_append, List.length_cons, List.length_nil] at this ⊢
        omega

/-- The levels of a text are texts. -/
theorem isText_level {s x : ByteArray} (h : isText s = true) (hx : x ∈ levels s) : isText x = true := by
  unfold isText at h ⊢
  rw [Bool.and_eq_true, decide_eq_true_eq] at h ⊢
  have hm : x.data.toList ∈ (levels s).map (·.data.toList) := List.mem_map_of_mem hx
  have hj := join_levels s
  constructor
  · have := part_len _ _ hm
    rw [hj, ← size_eq, ← size_eq] at this
    omega
  · have hne : (levels s).map (·.data.toList) ≠ [] := by intro e; rw [e] at hm; cases hm
    have := utf_levels _ hne
    rw [hj, h.2] at this
    exact List.all_eq_true.1 this.symm _ hm

theorem chkF_zero {s : ByteArray} (h : chkF s = 0) : s.size ≠ 0 ∧ isText s = true ∧ badLv (levels s) = false := by
  unfold chkF textE at h
  by_cases h0 : s.size = 0
  · rw [if_pos h0] at h; simp at h
  · rw [if_neg h0] at h
    cases ht : isText s with
    | false => rw [ht] at h; simp at h
    | true =>
      rw [ht] at h
      cases hb : badLv (levels s) with
      | false => exact ⟨h0, rfl, rfl⟩
      | true => rw [hb] at h; simp at h

theorem chk_zero {s : ByteArray} : chk s = 0 ↔ s.size ≠ 0 ∧ isText s = true ∧ sign s = false := by
  unfold chk textE
  by_cases h0 : s.size = 0
  · simp [h0]
  · cases ht : isText s <;> cases hs : sign s <;> simp [h0]

/-- In a filter the first byte is a sign just where the first level is that sign. -/
theorem first_sign {f x : ByteArray} {r : List ByteArray} (h : chkF f = 0) (hx : levels f = x :: r) (hp : 0 < f.size) (k : UInt8) (hk : k = 43 ∨ k = 35) :
    x.data.toList = [k] ↔ f[0] = k := by
  have hb := (chkF_zero h).2.2
  have hsp := levels_split f
  rw [hx] at hb hsp
  have hd := drop_get f 0 hp
  rw [List.drop_zero] at hd
  have hg : f.get! 0 = f[0] := by
    have h1 := get_toList f 0 hp
    have hl : 0 < f.data.toList.length := by simpa using hp
    rw [List.getElem?_eq_getElem hl] at h1
    exact (Option.some.inj h1).symm
  rw [hg] at hd
  rw [hd, split_cons, List.map_cons] at hsp
  have hk47 : k ≠ 47 := by rcases hk with rfl | rfl <;> decide
  have hks : ∀ t, signL (k :: t) = true := by intro t; rcases hk with rfl | rfl <;> simp [signL]
  by_cases h47 : f[0] = 47
  · rw [if_pos h47] at hsp
    injection hsp with h1 _
    rw [h1, h47]
    constructor
    · intro e; cases e
    · intro e; exact absurd e.symm hk47
  · rw [if_neg h47] at hsp
    cases hs : split (f.data.toList.drop (0 + 1)) with
    | nil => exact absurd hs (split_ne _)
    | cons y t =>
      rw [hs] at hsp
      injection hsp with h1 _
      rw [h1]
      constructor
      · intro e; injection e
      · intro e
        rw [e] at h1 ⊢
        have hsz : ¬ (1 < x.size) := by
          intro hlt
          have : badLv (x :: r) = true := by
            show ((sign x && decide (1 < x.size)) || _ || _) = true
            have : sign x = true := by unfold sign; rw [h1]; exact hks y
            rw [this, decide_eq_true hlt]; rfl
          rw [this] at hb; cases hb
        rw [size_eq, h1, List.length_cons] at hsz
        rw [List.eq_nil_of_length_eq_zero (show y.length = 0 by omega)]

theorem goesL_hash {f : ByteArray} {F T : List ByteArray} (h : f.data.toList = [35]) : goesL (f :: F) T = true := by unfold goesL; rw [if_pos h]
theorem goesL_short {f : ByteArray} {F : List ByteArray} (h : ¬ f.data.toList = [35]) : goesL (f :: F) [] = false := by unfold goesL; rw [if_neg h]
theorem goesL_on {f x : ByteArray} {F T : List ByteArray} (h : ¬ f.data.toList = [35]) (h2 : f.data.toList = [43] ∨ f = x) : goesL (f :: F) (x :: T) = goesL F T := by rw [goesL]; rw [if_neg h, if_pos h2]
theorem goesL_off {f x : ByteArray} {F T : List ByteArray} (h : ¬ f.data.toList = [35]) (h2 : ¬ f.data.toList = [43]) (h3 : ¬ f = x) : goesL (f :: F) (x :: T) = false := by
  rw [goesL]; rw [if_neg h, if_neg (by rintro (e | e); exact h2 e; exact h3 e)]

end Go.Proofs.Tp
