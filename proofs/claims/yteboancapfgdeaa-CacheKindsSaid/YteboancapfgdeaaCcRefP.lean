/- Plain: the document's cache in memory: a struct and a row of entries. No program in sight. -/
import Derived.Test.YteboancapfgdeaaCcKinds
import Derived.Maps.AppendAt
namespace Go.Proofs.Cc
open Go Go.RowKit

def ecs (p : Int × Int) : List Value := [.int .i64 p.1, .int .i64 p.2]
def rows (L : List (Int × Int)) : List Value := L.flatMap ecs

theorem rows_length : ∀ L : List (Int × Int), (rows L).length = L.length * 2
  | [] => rfl
  | p :: L => by have := rows_length L; simp only [rows, List.flatMap_cons, List.length_append, List.length_cons] at this ⊢; simp only [ecs, List.length_cons, List.length_nil]; omega

theorem rows_app (A B : List (Int × Int)) : rows (A ++ B) = rows A ++ rows B := by simp [rows]

theorem rows_get : ∀ (L : List (Int × Int)) (i : Nat) (p : Int × Int), L[i]? = some p → (rows L)[i * 2]? = some (.int .i64 p.1) ∧ (rows L)[i * 2 + 1]? = some (.int .i64 p.2)
  | [], i, p, h => by simp at h
  | q :: L, 0, p, h => by simp at h; subst h; exact ⟨rfl, rfl⟩
  | q :: L, i + 1, p, h => by
    have := rows_get L i p (by simpa using h)
    have e : (i + 1) * 2 = i * 2 + 1 + 1 := by omega
    rw [e]
    exact this

theorem rows_one (L : List (Int × Int)) : ∀ u ∈ rows L, u.oneCell' = true := by
  intro u hu
  obtain ⟨p, _, hp⟩ := List.mem_flatMap.1 hu
  simp [ecs] at hp
  rcases hp with rfl | rfl <;> rfl

theorem rows_take (L : List (Int × Int)) (k : Nat) : rows (L.take k) = (rows L).take (k * 2) := by
  by_cases hk : k ≤ L.length
  · have h := rows_app (L.take k) (L.drop k)
    rw [List.take_append_drop] at h
    have hl : (rows (L.take k)).length = k * 2 := by rw [rows_length, List.length_take, Nat.min_eq_left hk]
    rw [h, ← hl]
    exact List.take_left.symm
  · rw [List.take_of_length_le (by omega), List.take_of_length_le (by rw [rows_length]; omega)]

theorem rows_drop (L : List (Int × Int)) (k : Nat) : rows (L.drop k) = (rows L).drop (k * 2) := by
  by_cases hk : k ≤ L.length
  · have h := rows_app (L.take k) (L.drop k)
    rw [List.take_append_drop] at h
    have hl : (rows (L.take k)).length = k * 2 := by rw [rows_length, List.length_take, Nat.min_eq_left hk]
    rw [h, ← hl, List.drop_left]
  · rw [List.drop_eq_nil_of_le (by omega), List.drop_eq_nil_of_le (by rw [rows_length]; omega)]
    rfl

theorem add_at (g o j : Nat) : (⟨g, o, none⟩ : Addr).add j = ⟨g, o + j, none⟩ := by unfold Addr.add; split <;> simp_all

theorem owns_shape {w : World} {base e size n : Nat} {v : Value} {xs : List Value} (h : w.ownsRow base e size v n xs) : ∃ a c, v = .slice a n c := by
  rcases h.2 with ⟨rfl, h0⟩ | ⟨g, cap, cur, rfl, _⟩
  · exact ⟨none, 0, by rw [h0]⟩
  · exact ⟨_, _, rfl⟩

/-- The cells of a row's part. -/
theorem part_cells {w : World} {base e n g cap : Nat} {L : List (Int × Int)} (h : w.ownsRow base e 2 (.slice (some ⟨g, 0, none⟩) n cap) n (rows L)) (hn : n = L.length) (k : Nat) (M : List (Int × Int)) (hM : ∃ r, L.drop k = M ++ r) :
    ∀ j u, (rows M)[j]? = some u → w.cell? ((⟨g, k * 2, none⟩ : Addr).add j) = some u := by
  intro j u hj
  obtain ⟨r, hr⟩ := hM
  rw [add_at]
  have hjl := (List.getElem?_eq_some_iff.1 hj).1
  have hlen := congrArg List.length hr
  rw [List.length_drop, List.length_append] at hlen
  rw [rows_length] at hjl
  rw [h.cellAt (k * 2 + j) (by omega), ← List.getElem?_drop, ← rows_drop, hr, rows_app, List.getElem?_append_left (by rw [rows_length]; omega)]
  exact hj

/-- The document's cache. -/
structure RefAt (eT : TypeId) (w : World) (m : Nat) (S : Nat → Prop) (most : Nat) (L : List (Int × Int)) : Prop where
  most : w.cell? ⟨m, 0, none⟩ = some (.int .i64 most)
  list : ∃ v, w.cell? ⟨m, 1, none⟩ = some v ∧ w.ownsRow 0 eT 2 v L.length (rows L) ∧ ∀ g, v.ownBlock = some g → S g ∧ g ≠ m
  live : Live w m
  sub : S m

theorem ownsRow_same {w w' : World} {base e size n : Nat} {v : Value} {xs : List Value} {S : Nat → Prop} (h : w.ownsRow base e size v n xs) (hs : Same S w w') (hv : ∀ g, v.ownBlock = some g → S g) : w'.ownsRow base e size v n xs := by
  obtain ⟨h1, h2⟩ := h
  refine ⟨h1, ?_⟩
  rcases h2 with h2 | ⟨g, cap, cur, rfl, hg, hh, r⟩
  · exact .inl h2
  · exact .inr ⟨g, cap, cur, rfl, hg, (hs g (Array.getElem?_eq_some_iff.1 hh).1 (hv g rfl)).trans hh, r⟩

theorem RefAt.frame {eT : TypeId} {w w' : World} {m most : Nat} {S : Nat → Prop} {L : List (Int × Int)} (R : RefAt eT w m S most L) (hs : Same S w w') : RefAt eT w' m S most L where
  most := hs.cell R.sub R.most
  list := by
    obtain ⟨v, h1, h2, h3⟩ := R.list
    exact ⟨v, hs.cell R.sub h1, ownsRow_same h2 hs (fun g hg => (h3 g hg).1), h3⟩
  live := hs.live R.sub R.live
  sub := R.sub

theorem RefAt.wider {eT : TypeId} {w : World} {m most : Nat} {S T : Nat → Prop} {L : List (Int × Int)} (R : RefAt eT w m S most L) (hs : ∀ x, S x → T x) : RefAt eT w m T most L := by
  obtain ⟨h1, ⟨v, h2, h3, h4⟩, h5, h6⟩ := R
  exact ⟨h1, ⟨v, h2, h3, fun g hg => ⟨hs g (h4 g hg).1, (h4 g hg).2⟩⟩, h5, hs m h6⟩

/-- The field is set to another row. -/
theorem ref_set {eT : TypeId} {w0 w : World} {m most : Nat} {S T : Nat → Prop} {L L' : List (Int × Int)} (R : RefAt eT w0 m S most L) (hT : Turn S w0 w) (hm0 : w.cell? ⟨m, 0, none⟩ = w0.cell? ⟨m, 0, none⟩) (hm1 : ∃ u, w.cell? ⟨m, 1, none⟩ = some u) (hl : Live w m)
    {v : Value} (hown : w.ownsRow 0 eT 2 v L'.length (rows L')) (hv : ∀ g, v.ownBlock = some g → Grow S w0 g ∧ g ≠ m) (hST : ∀ x, Grow S w0 x → T x) :
    RefAt eT (w.setCell ⟨m, 1, none⟩ v) m T most L' ∧ Turn S w0 (w.setCell ⟨m, 1, none⟩ v) := by
  obtain ⟨u, hu⟩ := hm1
  refine ⟨⟨?_, ⟨v, cell_set_same hu, ?_, fun g hg => ⟨hST g (hv g hg).1, (hv g hg).2⟩⟩, hl.setCell _ _, hST m (.inl R.sub)⟩, hT.setCell (.inl R.sub) _⟩
  · rw [cell_set_other (.inr (by decide)), hm0]; exact R.most
  · obtain ⟨h1, h2⟩ := hown
    refine ⟨h1, ?_⟩
    rcases h2 with h2 | ⟨g, cap, cur, rfl, hg, hh, r⟩
    · exact .inl h2
    · exact .inr ⟨g, cap, cur, rfl, hg, (Below.heap_setCell _ _ _ _ (hv g rfl).2).trans hh, r⟩

def rmR (k : Int) (L : List (Int × Int)) : List (Int × Int) := L.eraseP (fun p => decide (p.1 = k))
def putR (most : Nat) (k v : Int) (L : List (Int × Int)) : List (Int × Int) := if most < ((k, v) :: rmR k L).length then ((k, v) :: rmR k L).take most else (k, v) :: rmR k L

theorem rmR_mid {k v : Int} {p q : List (Int × Int)} (h : ∀ x ∈ p, x.1 ≠ k) : rmR k (p ++ (k, v) :: q) = p ++ q := by
  unfold rmR
  rw [List.eraseP_append_right _ (fun x hx => by simpa using h x hx)]
  simp

theorem rmR_none {k : Int} {L : List (Int × Int)} (h : ∀ x ∈ L, x.1 ≠ k) : rmR k L = L := by
  unfold rmR
  exact List.eraseP_of_forall_not (fun x hx => by simpa using h x hx)

theorem length_rmR (k : Int) (L : List (Int × Int)) : (rmR k L).length ≤ L.length := List.Sublist.length_le List.eraseP_sublist

/-- A row that is cut shorter. -/
theorem owns_take {w : World} {base e : Nat} {g cap : Nat} {L : List (Int × Int)} (h : w.ownsRow base e 2 (.slice (some ⟨g, 0, none⟩) L.length cap) L.length (rows L)) (n : Nat) (hn : n ≤ L.length) :
    w.ownsRow base e 2 (.slice (some ⟨g, 0, none⟩) n cap) (L.take n).length (rows (L.take n)) := by
  have hl : (L.take n).length = n := by simp; omega
  rw [hl]
  rcases h.2 with ⟨h1, _⟩ | ⟨g', cap', cur, e1, hb, hg, hc, hm, hs, ht⟩
  · cases h1
  · injection e1 with e1 e2 e3
    injection e1 with e1
    injection e1 with e1
    subst e1; subst e3
    refine ⟨by rw [rows_length, hl], .inr ⟨g, cap, cur, rfl, hb, hg, by omega, hm, hs, ?_⟩⟩
    rw [rows_take, ← ht, List.take_take]
    congr 1
    omega

def lookR (k : Int) (L : List (Int × Int)) : Option Int := (L.find? (fun p => decide (p.1 = k))).map (·.2)

end Go.Proofs.Cc
