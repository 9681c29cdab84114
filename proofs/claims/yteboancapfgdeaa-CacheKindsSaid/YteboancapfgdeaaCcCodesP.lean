/- Plain: a law's codes in memory: a struct with one row. No program in sight. -/
import Derived.Test.YteboancapfgdeaaCcRefP
namespace Go.Proofs.Cc
open Go Go.RowKit

section
variable {K : Type}

def crow (KK : Kd K) (L : List K) : List Value := L.flatMap KK.cells

structure CodesAt (eT sz : Nat) (KK : Kd K) (zero : K) (w : World) (k : Nat) (S : Nat → Prop) (L : List K) : Prop where
  row : ∃ v, w.cell? ⟨k, 0, none⟩ = some v ∧ w.ownsRow 0 eT sz v L.length (crow KK L) ∧ ∀ g, v.ownBlock = some g → S g ∧ g ≠ k
  live : Live w k
  sub : S k
  head : L = [] ∨ ∃ r, L = zero :: r

variable {eT sz : Nat} {KK : Kd K} {zero : K} {w w' : World} {k : Nat} {S T : Nat → Prop} {L L' : List K}

theorem CodesAt.frame (R : CodesAt eT sz KK zero w k S L) (hs : Same S w w') : CodesAt eT sz KK zero w' k S L where
  row := by
    obtain ⟨v, h1, h2, h3⟩ := R.row
    exact ⟨v, hs.cell R.sub h1, ownsRow_same h2 hs (fun g hg => (h3 g hg).1), h3⟩
  live := hs.live R.sub R.live
  sub := R.sub
  head := R.head

theorem CodesAt.wider (R : CodesAt eT sz KK zero w k S L) (hs : ∀ x, S x → T x) : CodesAt eT sz KK zero w k T L := by
  obtain ⟨⟨v, h2, h3, h4⟩, h5, h6, h7⟩ := R
  exact ⟨⟨v, h2, h3, fun g hg => ⟨hs g (h4 g hg).1, (h4 g hg).2⟩⟩, h5, hs k h6, h7⟩

theorem crow_get {f : K → Value} (hf : ∀ x, KK.cells x = [f x]) : ∀ (L : List K) (i : Nat) (x : K), L[i]? = some x → (crow KK L)[i]? = some (f x)
  | [], i, x, h => by simp at h
  | y :: L, 0, x, h => by simp at h; subst h; simp [crow, hf]
  | y :: L, i + 1, x, h => by
    have := crow_get hf L i x (by simpa using h)
    simpa [crow, hf] using this

/-- The field is set to a longer row. -/
theorem codes_set {w0 : World} (R : CodesAt eT sz KK zero w0 k S L) (hT : Turn S w0 w) (hm1 : ∃ u, w.cell? ⟨k, 0, none⟩ = some u) (hl : Live w k)
    {v : Value} (hown : w.ownsRow 0 eT sz v L'.length (crow KK L')) (hv : ∀ g, v.ownBlock = some g → Grow S w0 g ∧ g ≠ k) (hh : L' = [] ∨ ∃ r, L' = zero :: r) :
    CodesAt eT sz KK zero (w.setCell ⟨k, 0, none⟩ v) k (Grow S w0) L' ∧ Turn S w0 (w.setCell ⟨k, 0, none⟩ v) := by
  obtain ⟨u, hu⟩ := hm1
  refine ⟨⟨⟨v, cell_set_same hu, ?_, hv⟩, hl.setCell _ _, .inl R.sub, hh⟩, hT.setCell (.inl R.sub) _⟩
  obtain ⟨h1, h2⟩ := hown
  refine ⟨h1, ?_⟩
  rcases h2 with h2 | ⟨g, cap, cur, rfl, hg, hh, r⟩
  · exact .inl h2
  · exact .inr ⟨g, cap, cur, rfl, hg, (Below.heap_setCell _ _ _ _ (hv g rfl).2).trans hh, r⟩

/-- Behind an append to the codes' row. -/
theorem codes_app {w0 w1 w2 : World} (R : CodesAt eT sz KK zero w0 k S L) {v v' : Value} {o : Obj} {x : K} (hw1 : w1 = w0.alloc o) (hv : ∀ g, v.ownBlock = some g → S g ∧ g ≠ k) (hgrow : w1.grownBy w2 v.ownBlock) (hob : v'.ownBlock = v.ownBlock ∨ v'.ownBlock = some w1.heap.size)
    {u : Value} (hu : w0.cell? ⟨k, 0, none⟩ = some u) (hown : w2.ownsRow 0 eT sz v' (L.length + 1) (crow KK L ++ KK.cells x)) (hh : L = [] → x = zero) :
    w2.cell? ⟨k, 0, none⟩ = some u ∧ Live w2 k ∧ CodesAt eT sz KK zero (w2.setCell ⟨k, 0, none⟩ v') k (Grow S w0) (L ++ [x]) ∧ Turn S w0 (w2.setCell ⟨k, 0, none⟩ v') := by
  have hk := R.live.lt
  have hne : some k ≠ v.ownBlock := fun e => (hv k e.symm).2 rfl
  have hb : w2.heap[k]? = w0.heap[k]? := (hgrow.block k (by rw [hw1]; simp; omega) hne).trans (by rw [hw1]; exact Below.heap_alloc _ _ _ hk)
  have hc : w2.cell? ⟨k, 0, none⟩ = some u := (World.cell?_of_block (w := w0) (a := ⟨k, 0, none⟩) hb).trans hu
  have hl : Live w2 k := by obtain ⟨cs, t, hx⟩ := R.live; exact ⟨cs, t, hb.trans hx⟩
  have hT : Turn S w0 w2 := (show Turn S w0 w1 by rw [hw1]; exact (Turn.refl S w0).alloc _).grown hgrow (fun g e => .inl (hv g e).1)
  have h := codes_set (L' := L ++ [x]) R hT ⟨_, hc⟩ hl (v := v') (by simpa [crow] using hown) (fun g e => by
    rcases hob with h | h
    · rw [h] at e; exact ⟨.inl (hv g e).1, (hv g e).2⟩
    · rw [h] at e
      cases e
      exact ⟨.inr (by rw [hw1]; simp), by rw [hw1]; simp; omega⟩) (by
    right
    rcases R.head with h | ⟨r, h⟩
    · exact ⟨[], by rw [h, hh h]; rfl⟩
    · exact ⟨r ++ [x], by rw [h]; rfl⟩)
  exact ⟨hc, hl, h⟩

/-- A thing's place in the codes. -/
def idx [DecidableEq K] (L : List K) (x : K) : Nat := L.idxOf x

theorem idxOf_at [DecidableEq K] {M : List K} {x e : K} {j : Nat} (hno : x ∉ M.take j) (he : M[j]? = some e) (hx : e = x) : idx M x = j := by
  unfold idx
  subst hx
  have hj := List.getElem?_eq_some_iff.1 he
  have hj1 : j < M.length := hj.1
  have h2 := List.take_append_drop j M
  rw [List.drop_eq_getElem_cons hj.1, hj.2] at h2
  rw [← h2, List.idxOf_append, if_neg hno]
  simp
  omega

theorem idxOf_new [DecidableEq K] {M : List K} {x : K} (h : x ∉ M) : idx (M ++ [x]) x = M.length := by
  unfold idx
  rw [List.idxOf_append, if_neg h]
  simp

end

end Go.Proofs.Cc
