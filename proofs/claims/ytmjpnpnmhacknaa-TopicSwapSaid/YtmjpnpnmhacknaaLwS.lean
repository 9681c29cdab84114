/- A store into a slice of texts that the call itself has laid. No program in sight. -/
import Derived.Test.YtmjpnpnmhacknaaTpMem
import Derived.Deep.RegionHeld3
import Derived.Lib.QuietBelow
import Derived.Deep.DeepCutAuto
import Derived.Deep.RegionWith
import Derived.StillTailTactics
namespace Go.Proofs.Tp
open Go Go.RowKit

theorem owns_open {w : World} {B e : Nat} {v : Value} {L : List ByteArray} (h : w.ownsRow B e 1 v L.length (L.map Value.string)) (hL : 0 < L.length) :
    ∃ b off cap, v = .slice (some ⟨b, off, none⟩) L.length cap ∧ L.length ≤ cap ∧ cap ≤ 9223372036854775807 ∧ B ≤ b ∧ b < w.heap.size ∧
      (∀ i x, L[i]? = some x → w.cell? ⟨b, off + i, none⟩ = some (.string x)) ∧ ∀ k, w.frozen? ⟨b, k, none⟩ = false := by
  have hst := StrsAt.of_owns h
  rcases h.2 with ⟨_, h0⟩ | ⟨g, cap, cur, rfl, hB, hg, hn, hm, _, _⟩
  · omega
  · obtain ⟨b, off, cap', hv, q1, q2, q3, q4⟩ := hst.open hL
    injection hv with h1 _ h2
    injection h1 with h1
    injection h1 with h3 h4
    subst h2 h3 h4
    exact ⟨g, 0, cap, rfl, q1, q2, hB, q3, q4, fun k => by simp [World.frozen?, hg]⟩

theorem set_at {w : World} {b off cap r : Nat} {L : List ByteArray} {y : ByteArray} (hr : r < L.length) (hc : L.length ≤ cap) (hm : cap ≤ 9223372036854775807)
    (h : ∀ i x, L[i]? = some x → w.cell? ⟨b, off + i, none⟩ = some (.string x)) :
    StrsAt (w.setCell ⟨b, off + r, none⟩ (.string y)) (.slice (some ⟨b, off, none⟩) L.length cap) (L.set r y) := by
  refine ⟨_, cap, by rw [List.length_set], by rw [List.length_set]; exact hc, by unfold maxLen; omega, .inr ⟨b, off, rfl, fun i x hx => ?_⟩⟩
  rw [List.getElem?_set] at hx
  by_cases e : r = i
  · subst e
    rw [if_pos rfl, if_pos hr] at hx
    cases hx
    exact World.cell?_setCell_same _ _ _ (h r L[r] (List.getElem?_eq_getElem hr))
  · rw [if_neg e] at hx
    rw [World.cell?_setCell_other _ _ _ _ (fun q => e (by injection q with _ q2 _; omega))]
    exact h i x hx

end Go.Proofs.Tp
