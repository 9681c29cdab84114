/- Proved here: the law's sameTexts. -/
import Derived.Test.YtgnffkahlniehaaGreatRtSameM
namespace Go.Proofs.YtgnffkahlniehaaGreat
open Go Go.RowKit Go.Proofs.Gs Go.Proofs.Tri Go.Proofs.Rt

set_option maxHeartbeats 2000000 in
set_option maxRecDepth 100000 in
/-- Two lists of levels: the same? -/
theorem sameTexts_any {w : World} {v1 v2 : Value} {L1 L2 : List ByteArray} (h1 : Tp.StrsAt w v1 L1) (h2 : Tp.StrsAt w v2 L2) (hl1 : L1.length ≤ 1000000001) :
    Calls Tryz.prog 72 #[v1, v2] w fun e w' => e = .returned (.bool (decide (L1 = L2))) ∧ ∃ m, w' = w.drewN m := by
  by_cases hne : L1.length = L2.length
  · by_cases h0 : L1.length = 0
    · have e1 : L1 = [] := List.eq_nil_of_length_eq_zero h0
      have e2 : L2 = [] := List.eq_nil_of_length_eq_zero (by omega)
      subst e1; subst e2
      obtain ⟨a1, c1, rfl⟩ := Tp.StrsAt.open_nil h1
      obtain ⟨a2, c2, rfl⟩ := Tp.StrsAt.open_nil h2
      clear h1 h2 hne h0
      go_enter Tryz.func72, Tryz.ntmps72
      go_wp2_with fail
      go_loopg [5] 0 (fun g i wr => i = .int .i64 0 ∧ wr = w)
      case atStart => exact ⟨rfl, rfl⟩
      case round =>
        obtain ⟨rfl, rfl⟩ := hrel
        go_wp2_with fail
        go_ret
        exact ⟨rfl, 0, rfl⟩
    · obtain ⟨b1, o1, c1, rfl, p1, p2, p3, p4⟩ := Tp.StrsAt.open h1 (by omega)
      obtain ⟨b2, o2, c2, rfl, q1, q2, q3, q4⟩ := Tp.StrsAt.open h2 (by omega)
      obtain ⟨n, hn⟩ : ∃ n, L1.length = n := ⟨_, rfl⟩
      have hn2 : L2.length = n := by omega
      have HP := Lib.hid p4
      have HQ := Lib.hid q4
      have HN := Lib.hid hn
      have HN2 := Lib.hid hn2
      rw [hn] at p1 hl1 ⊢
      rw [hn2] at q1 ⊢
      clear h1 h2 hne h0 p4 q4 hn hn2 p3 q3
      go_enter Tryz.func72, Tryz.ntmps72
      go_wp2_with fail
      go_loopg [5] n (fun g i wr => ∃ j m : Nat, j + g = n ∧ i = .int .i64 (j : Nat) ∧ L1.take j = L2.take j ∧ wr = w.drewN m)
      case atStart => exact ⟨0, 0, by omega, rfl, rfl, rfl⟩
      case round =>
        obtain ⟨j, m, hj, rfl, heq, rfl⟩ := hrel
        have HE := Lib.hid heq
        clear heq
        cases gk with
        | zero =>
          obtain rfl : j = n := by omega
          have hd : decide ((j : Int) < (j : Int)) = false := decide_eq_false (by omega)
          have hfin : decide (L1 = L2) = true := by
            have := HE.out
            rw [List.take_of_length_le (by have := HN.out; omega), List.take_of_length_le (by have := HN2.out; omega)] at this
            simpa using this
          have HFIN := Lib.hid hfin
          clear hfin
          go_wp2_with fail
          go_ret
          exact ⟨by rw [HFIN.out]; rfl, m, rfl⟩
        | succ gk =>
          have hjn : j < n := by omega
          have hd : decide ((j : Int) < (n : Int)) = true := decide_eq_true (by omega)
          obtain ⟨x, g1⟩ : ∃ x, L1[j]? = some x := ⟨_, List.getElem?_eq_getElem (show j < L1.length by have := HN.out; omega)⟩
          obtain ⟨y, g2⟩ : ∃ y, L2[j]? = some y := ⟨_, List.getElem?_eq_getElem (show j < L2.length by have := HN2.out; omega)⟩
          have k1 := HP.out j _ g1
          have k2 := HQ.out j _ g2
          have hb1 : (0 : Int) ≤ (j : Int) := by omega
          have hb2 : (j : Int) < (n : Int) := by omega
          have HG1 := Lib.hid g1
          have HG2 := Lib.hid g2
          clear g1 g2
          by_cases hxy : x = y
          · have e1 : (x.toList != y.toList) = false := by rw [hxy]; simp
            have e2 : (x.toList == y.toList) = true := by rw [hxy]; simp
            have HXY := Lib.hid hxy
            clear hxy
            go_wp2_with fail
            go_quiet (fail)
            go_wp2_with fail
            go_roundg gk
            case measure => omega
            case rel => exact ⟨j + 1, _, by omega, by go_num, by rw [List.take_add_one, List.take_add_one, HG1.out, HG2.out, HXY.out, HE.out], rfl⟩
          · have hne2 : x.toList ≠ y.toList := fun e => hxy (ba_ext (by rwa [Lib.toList_data, Lib.toList_data] at e))
            have e1 : (x.toList != y.toList) = true := by rw [bne_iff_ne]; exact hne2
            have e2 : (x.toList == y.toList) = false := by rw [beq_eq_false_iff_ne]; exact hne2
            have hfin : decide (L1 = L2) = false := decide_eq_false (fun e => by
              have := HG1.out
              rw [e, HG2.out] at this
              injection this with this
              exact hxy this.symm)
            have HFIN := Lib.hid hfin
            clear hfin hxy hne2
            go_wp2_with fail
            go_quiet (fail)
            go_wp2_with fail
            go_ret
            exact ⟨by rw [HFIN.out]; rfl, drewN_two w _ _⟩
  · have hb : ((L1.length : Int) != (L2.length : Int)) = true := by rw [bne_iff_ne]; omega
    obtain ⟨a1, c1, rfl, -⟩ := h1
    obtain ⟨a2, c2, rfl, -⟩ := h2
    have hfin : decide (L1 = L2) = false := decide_eq_false (fun e => hne (by rw [e]))
    have HFIN := Lib.hid hfin
    clear hfin
    generalize L1.length = n1 at *
    generalize L2.length = n2 at *
    clear hne
    go_enter Tryz.func72, Tryz.ntmps72
    go_wp2_with fail
    go_ret
    exact ⟨by rw [HFIN.out]; rfl, 0, rfl⟩
end Go.Proofs.YtgnffkahlniehaaGreat
