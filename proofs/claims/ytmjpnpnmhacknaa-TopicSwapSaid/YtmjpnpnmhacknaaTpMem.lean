/- A slice of texts in memory. No program in sight. -/
import Derived.WalkKit
import Derived.WalkSmall
import Derived.Test.YtmjpnpnmhacknaaTpPlain
namespace Go.Proofs.Tp
open Go Go.RowKit

/-- The value reads, in this world, as this list of texts. -/
def StrsAt (w : World) (v : Value) (L : List ByteArray) : Prop :=
  ∃ a cap, v = .slice a L.length cap ∧ L.length ≤ cap ∧ cap ≤ maxLen ∧
    (L = [] ∨ ∃ b off, a = some ⟨b, off, none⟩ ∧ ∀ i x, L[i]? = some x → w.cell? ⟨b, off + i, none⟩ = some (.string x))

theorem StrsAt.nil (w : World) : StrsAt w (.slice none 0 0) [] := ⟨none, 0, rfl, Nat.le_refl _, Nat.zero_le _, .inl rfl⟩

theorem addr_add (g i : Nat) : (⟨g, 0, none⟩ : Addr).add i = ⟨g, 0 + i, none⟩ := by unfold Addr.add; split <;> simp_all

theorem StrsAt.of_owns {w : World} {B e : Nat} {v : Value} {L : List ByteArray} (h : w.ownsRow B e 1 v L.length (L.map Value.string)) : StrsAt w v L := by
  have hc := h
  rcases h.2 with ⟨rfl, h0⟩ | ⟨g, cap, cur, rfl, _, _, hn, hm, _, _⟩
  · have : L = [] := List.eq_nil_of_length_eq_zero h0
    subst this
    exact .nil w
  · refine ⟨_, cap, rfl, hn, hm, ?_⟩
    by_cases hL : L = []
    · exact .inl hL
    · refine .inr ⟨g, 0, rfl, fun i x hx => ?_⟩
      have := hc.cells (g := g) rfl i (.string x) (by rw [List.getElem?_map, hx]; rfl)
      rwa [addr_add] at this

theorem StrsAt.below {w w' : World} {v : Value} {L : List ByteArray} (h : StrsAt w v L) (hb : Below w.heap.size w w') : StrsAt w' v L := by
  obtain ⟨a, cap, rfl, h1, h2, h3⟩ := h
  refine ⟨a, cap, rfl, h1, h2, ?_⟩
  rcases h3 with h3 | ⟨b, off, rfl, hc⟩
  · exact .inl h3
  · refine .inr ⟨b, off, rfl, fun i x hx => ?_⟩
    have := hc i x hx
    rw [hb.cell (World.block_lt_of_cell? w _ this)]
    exact this

theorem StrsAt.open {w : World} {v : Value} {L : List ByteArray} (h : StrsAt w v L) (hL : 0 < L.length) :
    ∃ b off cap, v = .slice (some ⟨b, off, none⟩) L.length cap ∧ L.length ≤ cap ∧ cap ≤ 9223372036854775807 ∧ b < w.heap.size ∧
      ∀ i x, L[i]? = some x → w.cell? ⟨b, off + i, none⟩ = some (.string x) := by
  obtain ⟨a, cap, rfl, h1, h2, h3⟩ := h
  rcases h3 with rfl | ⟨b, off, rfl, hc⟩
  · simp at hL
  · refine ⟨b, off, cap, rfl, h1, h2, ?_, hc⟩
    have h0 := hc 0 L[0] (by simp [hL])
    exact World.block_lt_of_cell? w _ h0

theorem StrsAt.open_nil {w : World} {v : Value} (h : StrsAt w v []) : ∃ a cap, v = .slice a 0 cap := by
  obtain ⟨a, cap, rfl, _⟩ := h
  exact ⟨a, cap, rfl⟩

/-- The rest behind the first k. -/
theorem StrsAt.drop {w : World} {b off cap n : Nat} {L : List ByteArray} (k : Nat) (hk : k ≤ n) (hn : L.length = n) (hc : n ≤ cap) (hm : cap ≤ 9223372036854775807)
    (h : ∀ i x, L[i]? = some x → w.cell? ⟨b, off + i, none⟩ = some (.string x)) (a : Option Addr) (ha : k < n → a = some ⟨b, off + k, none⟩) :
    StrsAt w (.slice a (n - k) (cap - k)) (L.drop k) := by
  refine ⟨a, cap - k, by simp [hn], by simp; omega, by unfold maxLen; omega, ?_⟩
  by_cases hkn : k < n
  · refine .inr ⟨b, off + k, ha hkn, fun i x hx => ?_⟩
    rw [List.getElem?_drop] at hx
    rw [Nat.add_assoc]
    exact h _ x hx
  · exact .inl (List.drop_eq_nil_of_le (by omega))

end Go.Proofs.Tp
