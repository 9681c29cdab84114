/- Plain: a pair's four parts, who owns which, and what a call makes of their lists. No program in sight. -/
import Derived.Test.YteboancapfgdeaaCcCodesP
namespace Go.Proofs.Cc
open Go Go.RowKit

def codeL {K V : Type} [DecidableEq K] [DecidableEq V] (KL : List K) (VL : List V) (D : List (K × V)) : List (Int × Int) := D.map (fun p => (((idx KL p.1 : Nat) : Int), ((idx VL p.2 : Nat) : Int)))

section
variable {K V : Type} [DecidableEq K] [DecidableEq V]

theorem idx_inj {L : List K} {a b : K} (ha : a ∈ L) (h : idx L a = idx L b) : a = b := by
  unfold idx at h
  have h1 := List.idxOf_lt_length_of_mem ha
  have e1 : L[L.idxOf a] = a := List.getElem_idxOf h1
  have h2 : L.idxOf b < L.length := by omega
  have e2 : L[L.idxOf b] = b := List.getElem_idxOf h2
  rw [← e1, ← e2]
  congr 1

theorem idx_pre {L L' : List K} {a : K} (ha : a ∈ L) (h : L <+: L') : idx L' a = idx L a := by
  obtain ⟨r, rfl⟩ := h
  unfold idx
  rw [List.idxOf_append, if_pos ha]

theorem codeL_pre {KL KL' : List K} {VL VL' : List V} {D : List (K × V)} (hk : ∀ p ∈ D, p.1 ∈ KL) (hv : ∀ p ∈ D, p.2 ∈ VL) (h1 : KL <+: KL') (h2 : VL <+: VL') : codeL KL' VL' D = codeL KL VL D := by
  unfold codeL
  refine List.map_congr_left (fun p hp => ?_)
  rw [idx_pre (hk p hp) h1, idx_pre (hv p hp) h2]

theorem split_unique {A A' B B' : List (Int × Int)} {n a a' : Int} (h : A ++ (n, a) :: B = A' ++ (n, a') :: B') (h1 : ∀ x ∈ A, x.1 ≠ n) (h2 : ∀ x ∈ A', x.1 ≠ n) : A = A' ∧ a = a' ∧ B = B' := by
  induction A generalizing A' with
  | nil =>
    cases A' with
    | nil => simp at h; exact ⟨rfl, h.1, h.2⟩
    | cons x A' => simp at h; exact absurd (by rw [← h.1]) (h2 x (by simp))
  | cons y A ih =>
    cases A' with
    | nil => simp at h; exact absurd (by rw [h.1]) (h1 y (by simp))
    | cons x A' =>
      simp at h
      obtain ⟨e1, e2, e3⟩ := ih h.2 (fun z hz => h1 z (by simp [hz])) (fun z hz => h2 z (by simp [hz]))
      exact ⟨by rw [h.1, e1], e2, e3⟩

variable {KL : List K} {VL : List V} {D : List (K × V)} {k : K} {v : V}

theorem code_ne (hk : ∀ p ∈ D, p.1 ∈ KL) (h : ∀ p ∈ D, p.1 ≠ k) : ∀ x ∈ codeL KL VL D, x.1 ≠ ((idx KL k : Nat) : Int) := by
  intro x hx
  obtain ⟨p, hp, rfl⟩ := List.mem_map.1 hx
  intro e
  have : idx KL p.1 = idx KL k := Int.ofNat.inj e
  exact h p hp (idx_inj (hk p hp) this)

theorem code_any (hk : ∀ p ∈ D, p.1 ∈ KL) : (codeL KL VL D).any (fun x => decide (x.1 = ((idx KL k : Nat) : Int))) = D.any (fun p => decide (p.1 = k)) := by
  unfold codeL
  rw [List.any_map]
  have : ∀ l : List (K × V), (∀ p ∈ l, p.1 ∈ KL) → l.any ((fun x : Int × Int => decide (x.1 = ((idx KL k : Nat) : Int))) ∘ fun p => (((idx KL p.1 : Nat) : Int), ((idx VL p.2 : Nat) : Int))) = l.any (fun p => decide (p.1 = k)) := by
    intro l
    induction l with
    | nil => intro _; rfl
    | cons p l ih =>
      intro h
      rw [List.any_cons, List.any_cons, ih (fun q hq => h q (by simp [hq]))]
      congr 1
      simp only [Function.comp, decide_eq_decide]
      constructor
      · intro e; exact idx_inj (h p (by simp)) (Int.ofNat.inj e)
      · intro e; rw [e]
  exact this D hk

theorem code_rm (hk : ∀ p ∈ D, p.1 ∈ KL) (hn : (D.map (·.1)).Nodup) : rmR ((idx KL k : Nat) : Int) (codeL KL VL D) = codeL KL VL (rmD k D) := by
  by_cases h : ∃ p ∈ D, p.1 = k
  · obtain ⟨p, hp, rfl⟩ := h
    obtain ⟨A, B, rfl⟩ := List.append_of_mem hp
    rw [List.map_append, List.map_cons] at hn
    have hn2 := List.nodup_append.1 hn
    have hn3 := List.nodup_cons.1 hn2.2.1
    have hA : ∀ x ∈ A, x.1 ≠ p.1 := fun x hx e => hn2.2.2 x.1 (List.mem_map_of_mem hx) p.1 (by simp) e
    have hB : ∀ x ∈ B, x.1 ≠ p.1 := fun x hx e => hn3.1 (e ▸ List.mem_map_of_mem hx)
    have e1 : codeL KL VL (A ++ p :: B) = codeL KL VL A ++ (((idx KL p.1 : Nat) : Int), ((idx VL p.2 : Nat) : Int)) :: codeL KL VL B := by simp [codeL]
    rw [e1, rmR_mid (code_ne (fun x hx => hk x (by simp [hx])) hA)]
    unfold rmD
    rw [List.filter_append, List.filter_cons]
    simp only [ne_eq, not_true_eq_false, decide_false, Bool.false_eq_true, ↓reduceIte]
    rw [List.filter_eq_self.2 (fun x hx => by simpa using hA x hx), List.filter_eq_self.2 (fun x hx => by simpa using hB x hx)]
    simp [codeL]
  · have h' : ∀ p ∈ D, p.1 ≠ k := fun p hp e => h ⟨p, hp, e⟩
    rw [rmR_none (code_ne hk h')]
    unfold rmD
    rw [List.filter_eq_self.2 (fun x hx => by simpa using h' x hx)]

theorem code_put {most : Nat} (hk : ∀ p ∈ D, p.1 ∈ KL) (hn : (D.map (·.1)).Nodup) (hl : D.length ≤ most) : putR most ((idx KL k : Nat) : Int) ((idx VL v : Nat) : Int) (codeL KL VL D) = codeL KL VL (putD most k v D) := by
  have e1 : (((idx KL k : Nat) : Int), ((idx VL v : Nat) : Int)) :: rmR ((idx KL k : Nat) : Int) (codeL KL VL D) = codeL KL VL ((k, v) :: rmD k D) := by
    rw [code_rm hk hn]; rfl
  have hlen : (codeL KL VL ((k, v) :: rmD k D)).length = ((k, v) :: rmD k D).length := by unfold codeL; rw [List.length_map]
  unfold putR putD
  rw [e1, hlen]
  by_cases h : most < ((k, v) :: rmD k D).length
  · rw [if_pos h, if_pos h]
    have hle : (rmD k D).length ≤ D.length := List.length_filter_le _ _
    have hm : most = ((k, v) :: rmD k D).length - 1 := by rw [List.length_cons] at h ⊢; omega
    unfold codeL
    rw [← List.map_take, List.dropLast_eq_take, hm]
  · rw [if_neg h, if_neg h]

end

theorem CodesAt.tight {K : Type} {eT sz : Nat} {KK : Kd K} {zero : K} {w : World} {k : Nat} {S : Nat → Prop} {L : List K} (R : CodesAt eT sz KK zero w k S L) : CodesAt eT sz KK zero w k (fun x => S x ∧ x < w.heap.size) L := by
  obtain ⟨⟨v, h1, h2, h3⟩, h4, h5, h6⟩ := R
  exact ⟨⟨v, h1, h2, fun g hg => ⟨⟨(h3 g hg).1, (h2.lt g hg).2⟩, (h3 g hg).2⟩⟩, h4, ⟨h5, h4.lt⟩, h6⟩

theorem RefAt.tight {eT : TypeId} {w : World} {m most : Nat} {S : Nat → Prop} {L : List (Int × Int)} (R : RefAt eT w m S most L) : RefAt eT w m (fun x => S x ∧ x < w.heap.size) most L := by
  obtain ⟨h1, ⟨v, h2, h3, h4⟩, h5, h6⟩ := R
  exact ⟨h1, ⟨v, h2, h3, fun g hg => ⟨⟨(h4 g hg).1, (h3.lt g hg).2⟩, (h4 g hg).2⟩⟩, h5, ⟨h6, h5.lt⟩⟩

section
variable {K V : Type} [DecidableEq K]
variable {D : List (K × V)} {k : K} {v : V}

/-- What a call asks of the entries' codes, behind it. -/
theorem mem_putD {most : Nat} {p : K × V} (h : p ∈ putD most k v D) : p = (k, v) ∨ p ∈ D := by
  have : p ∈ (k, v) :: rmD k D := by
    unfold putD at h
    split at h
    · exact List.dropLast_subset _ h
    · exact h
  rcases List.mem_cons.1 this with e | e
  · exact .inl e
  · exact .inr (List.mem_filter.1 e).1

theorem length_putD {most : Nat} (hl : D.length ≤ most) : (putD most k v D).length ≤ most := by
  have hle : (rmD k D).length ≤ D.length := List.length_filter_le _ _
  unfold putD
  split
  · rw [List.length_dropLast, List.length_cons]; omega
  · omega

theorem CacheAt.tight {P : Program} {kT : TypeId} {KK : Kd K} {VK : Kd V} {w : World} {c most : Nat} {S : Nat → Prop} {E : List (Ent K V)} (C : CacheAt P kT KK VK w c S most E) : CacheAt P kT KK VK w c (fun x => S x ∧ x < w.heap.size) most E := by
  obtain ⟨b, h, D, C⟩ := C
  exact ⟨b, h, D, { C with sub := ⟨⟨C.sub.1, C.liveC.lt⟩, ⟨C.sub.2.1, C.own.lt⟩, fun x hx => ⟨C.sub.2.2 x hx, (C.live x hx).lt⟩⟩ }⟩

/-- Four parts of a pair, each in its own colour. -/
structure Quad (P : Program) (kT eK eV sK sV eE : Nat) (KK : Kd K) (VK : Kd V) (zK : K) (zV : V) (o : Nat → Nat) (i : Nat) (w : World) (c mp kp vp most : Nat) (E : List (Ent K V)) (L : List (Int × Int)) (KL : List K) (VL : List V) : Prop where
  cache : CacheAt P kT KK VK w c (fun x => o x = i + 1) most E
  ref : RefAt eE w mp (fun x => o x = i + 2) most L
  keys : CodesAt eK sK KK zK w kp (fun x => o x = i + 3) KL
  vals : CodesAt eV sV VK zV w vp (fun x => o x = i + 4) VL

def recolor (o : Nat → Nat) (w : World) (j : Nat) : Nat → Nat := fun x => if x < w.heap.size then o x else j

variable {KL : List K} {VL : List V} {P : Program} {kT eK eV sK sV eE : Nat} {KK : Kd K} {VK : Kd V} {zK : K} {zV : V} {o : Nat → Nat} {i : Nat} {w w' : World} {c mp kp vp most : Nat} {E E' : List (Ent K V)} {L L' : List (Int × Int)} {KL' : List K} {VL' : List V}

theorem Quad.recolor (Q : Quad P kT eK eV sK sV eE KK VK zK zV o i w c mp kp vp most E L KL VL) (j : Nat) : Quad P kT eK eV sK sV eE KK VK zK zV (recolor o w j) i w c mp kp vp most E L KL VL := by
  have h : ∀ t x, (o x = t ∧ x < w.heap.size) → Cc.recolor o w j x = t := fun t x hx => by unfold Cc.recolor; rw [if_pos hx.2]; exact hx.1
  exact ⟨(CacheAt.tight Q.cache).wider (h _), (RefAt.tight Q.ref).wider (h _), (CodesAt.tight Q.keys).wider (h _), (CodesAt.tight Q.vals).wider (h _)⟩

theorem Quad.below (Q : Quad P kT eK eV sK sV eE KK VK zK zV o i w c mp kp vp most E L KL VL) (hb : Below w.heap.size w w') : Quad P kT eK eV sK sV eE KK VK zK zV o i w' c mp kp vp most E L KL VL :=
  ⟨Q.cache.frame (Below.toSame hb), Q.ref.frame (Below.toSame hb), Q.keys.frame (Below.toSame hb), Q.vals.frame (Below.toSame hb)⟩

theorem grow_colour {j : Nat} (hn : ∀ x, w.heap.size ≤ x → o x = j) : ∀ x, Grow (fun x => o x = j) w x → o x = j := fun x hx => hx.elim id (hn x)

theorem Quad.turnC (Q : Quad P kT eK eV sK sV eE KK VK zK zV o i w c mp kp vp most E L KL VL) (hn : ∀ x, w.heap.size ≤ x → o x = i + 1) (hT : Turn (fun x => o x = i + 1) w w') (C : CacheAt P kT KK VK w' c (Grow (fun x => o x = i + 1) w) most E') :
    Quad P kT eK eV sK sV eE KK VK zK zV o i w' c mp kp vp most E' L KL VL :=
  ⟨C.wider (grow_colour hn), Q.ref.frame (hT.same (fun x h h' => by omega)), Q.keys.frame (hT.same (fun x h h' => by omega)), Q.vals.frame (hT.same (fun x h h' => by omega))⟩

theorem Quad.turnM (Q : Quad P kT eK eV sK sV eE KK VK zK zV o i w c mp kp vp most E L KL VL) (hn : ∀ x, w.heap.size ≤ x → o x = i + 2) (hT : Turn (fun x => o x = i + 2) w w') (C : RefAt eE w' mp (Grow (fun x => o x = i + 2) w) most L') :
    Quad P kT eK eV sK sV eE KK VK zK zV o i w' c mp kp vp most E L' KL VL :=
  ⟨Q.cache.frame (hT.same (fun x h h' => by omega)), C.wider (grow_colour hn), Q.keys.frame (hT.same (fun x h h' => by omega)), Q.vals.frame (hT.same (fun x h h' => by omega))⟩

theorem Quad.turnK (Q : Quad P kT eK eV sK sV eE KK VK zK zV o i w c mp kp vp most E L KL VL) (hn : ∀ x, w.heap.size ≤ x → o x = i + 3) (hT : Turn (fun x => o x = i + 3) w w') (C : CodesAt eK sK KK zK w' kp (Grow (fun x => o x = i + 3) w) KL') :
    Quad P kT eK eV sK sV eE KK VK zK zV o i w' c mp kp vp most E L KL' VL :=
  ⟨Q.cache.frame (hT.same (fun x h h' => by omega)), Q.ref.frame (hT.same (fun x h h' => by omega)), C.wider (grow_colour hn), Q.vals.frame (hT.same (fun x h h' => by omega))⟩

theorem Quad.turnV (Q : Quad P kT eK eV sK sV eE KK VK zK zV o i w c mp kp vp most E L KL VL) (hn : ∀ x, w.heap.size ≤ x → o x = i + 4) (hT : Turn (fun x => o x = i + 4) w w') (C : CodesAt eV sV VK zV w' vp (Grow (fun x => o x = i + 4) w) VL') :
    Quad P kT eK eV sK sV eE KK VK zK zV o i w' c mp kp vp most E L KL VL' :=
  ⟨Q.cache.frame (hT.same (fun x h h' => by omega)), Q.ref.frame (hT.same (fun x h h' => by omega)), Q.keys.frame (hT.same (fun x h h' => by omega)), C.wider (grow_colour hn)⟩

theorem recolor_new (o : Nat → Nat) (w : World) (j : Nat) : ∀ x, w.heap.size ≤ x → recolor o w j x = j := fun x hx => by unfold recolor; rw [if_neg (by omega)]
theorem recolor_old (o : Nat → Nat) (w : World) (j : Nat) : ∀ x, x < w.heap.size → recolor o w j x = o x := fun x hx => by unfold recolor; rw [if_pos hx]

end

end Go.Proofs.Cc
