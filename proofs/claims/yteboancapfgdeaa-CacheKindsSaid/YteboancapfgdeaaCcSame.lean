/- Proved here: same, at two equal rows of entries. -/
import Derived.Test.YteboancapfgdeaaCcRefB
import Derived.Deep.Draws
namespace Go.Proofs.Yteboancapfgdeaa
open Go.RowKit Go.Proofs.Cc

set_option maxRecDepth 100000 in
set_option maxHeartbeats 1000000 in
theorem same_eq {w : World} {v1 v2 : Value} {B1 B2 : Nat} {L : List (Int × Int)} (h1 : w.ownsRow B1 120 2 v1 L.length (rows L)) (h2 : w.ownsRow B2 120 2 v2 L.length (rows L)) :
    Calls Try.prog 60 #[v1, v2] w fun ex w' => ex = .returned (.bool true) ∧ ∃ n, w' = w.drewN n := by
  by_cases hL : L = []
  · subst hL
    obtain ⟨a1, c1, rfl⟩ := owns_shape h1
    obtain ⟨a2, c2, rfl⟩ := owns_shape h2
    clear h1 h2
    go_enter Try.func60, Try.ntmps60
    go_wp2_with fail
    go_loopg [5] 0 (fun g i wr => i = .int .i64 0 ∧ wr = w)
    case atStart => exact ⟨rfl, rfl⟩
    case round =>
      obtain ⟨rfl, rfl⟩ := hrel
      go_wp2_with fail
      go_ret
      exact ⟨rfl, 0, rfl⟩
  · obtain ⟨g1, p1, k1, rfl, -, q1, hn1, hm1, -, -⟩ : ∃ g cap cur, v1 = .slice (some ⟨g, 0, none⟩) L.length cap ∧ B1 ≤ g ∧ w.heap[g]? = some (.cells cur 120 (0, 0)) ∧ L.length ≤ cap ∧ cap ≤ maxLen ∧ cur.size = cap * 2 ∧ cur.toList.take (L.length * 2) = rows L := by
      rcases h1.2 with ⟨rfl, h0⟩ | h
      · exact absurd (List.eq_nil_of_length_eq_zero h0) hL
      · exact h
    obtain ⟨g2, p2, k2, rfl, -, q2, hn2, hm2, -, -⟩ : ∃ g cap cur, v2 = .slice (some ⟨g, 0, none⟩) L.length cap ∧ B2 ≤ g ∧ w.heap[g]? = some (.cells cur 120 (0, 0)) ∧ L.length ≤ cap ∧ cap ≤ maxLen ∧ cur.size = cap * 2 ∧ cur.toList.take (L.length * 2) = rows L := by
      rcases h2.2 with ⟨rfl, h0⟩ | h
      · exact absurd (List.eq_nil_of_length_eq_zero h0) hL
      · exact h
    have hcell1 : ∀ i p, L[i]? = some p → w.cell? ⟨g1, i * 2, none⟩ = some (.int .i64 p.1) ∧ w.cell? ⟨g1, i * 2 + 1, none⟩ = some (.int .i64 p.2) := by
      intro i p hp
      have hr := rows_get L i p hp
      have hil : i < L.length := (List.getElem?_eq_some_iff.1 hp).1
      exact ⟨(h1.cellAt (i * 2) (by omega)).trans hr.1, (h1.cellAt (i * 2 + 1) (by omega)).trans hr.2⟩
    have hcell2 : ∀ i p, L[i]? = some p → w.cell? ⟨g2, i * 2, none⟩ = some (.int .i64 p.1) ∧ w.cell? ⟨g2, i * 2 + 1, none⟩ = some (.int .i64 p.2) := by
      intro i p hp
      have hr := rows_get L i p hp
      have hil : i < L.length := (List.getElem?_eq_some_iff.1 hp).1
      exact ⟨(h2.cellAt (i * 2) (by omega)).trans hr.1, (h2.cellAt (i * 2 + 1) (by omega)).trans hr.2⟩
    have hm1' : p1 ≤ 9223372036854775807 := hm1
    have hm2' : p2 ≤ 9223372036854775807 := hm2
    have HC1 := Lib.hid hcell1
    have HC2 := Lib.hid hcell2
    clear hcell1 hcell2 h1 h2 q1 q2 hm1 hm2
    go_enter Try.func60, Try.ntmps60
    go_wp2_with fail
    go_loopg [5] L.length (fun g i wr => ∃ k n, k + g = L.length ∧ i = .int .i64 (k : Nat) ∧ wr = w.drewN n)
    case atStart => exact ⟨0, 0, by omega, rfl, rfl⟩
    case round =>
      obtain ⟨k, n, hkg, rfl, rfl⟩ := hrel
      cases gk with
      | zero =>
        obtain rfl : k = L.length := by omega
        go_wp2_with fail
        go_ret
        exact ⟨rfl, n, rfl⟩
      | succ gk =>
        have hkl : k < L.length := by omega
        have hk := List.getElem?_eq_getElem hkl
        have hk0 := (HC1.out k _ hk).1
        have hk1 := (HC1.out k _ hk).2
        have hj0 := (HC2.out k _ hk).1
        have hj1 := (HC2.out k _ hk).2
        generalize L[k] = e at hk0 hk1 hj0 hj1
        clear hk
        have hi0 : (0 : Int) ≤ (k : Int) := by omega
        have hi1 : (k : Int) < (L.length : Int) := by omega
        go_wp2_with fail
        go_region
        go_wp2_with fail
        go_roundg gk
        case measure => omega
        case rel => exact ⟨k + 1, n + 1, by omega, by go_num, rfl⟩

end Go.Proofs.Yteboancapfgdeaa
