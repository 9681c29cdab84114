/- Proved here: the law's sameMessages. -/
import Derived.Test.YtgnffkahlniehaaGreatRtMsgs
namespace Go.Proofs.YtgnffkahlniehaaGreat
open Go Go.RowKit Go.Proofs.Gs Go.Proofs.Tri Go.Proofs.Rt Go.Proofs.Tp Go.Proofs.Rg

set_option maxHeartbeats 4000000 in
set_option maxRecDepth 100000 in
theorem sameMsgs_any {F1 F2 : Nat → Prop} {w : World} {v1 v2 : Value} {L1 L2 : List MsgV} (h1 : MsgsAt F1 w v1 L1) (h2 : MsgsAt F2 w v2 L2) (hl1 : L1.length ≤ 1000000) (hp : ∀ m ∈ L1, m.pay.length ≤ 1000000000) :
    Calls Tryz.prog 16 #[v1, v2] w fun e w' => ∃ b, e = .returned (.bool b) ∧ (b = true ↔ L1 = L2) ∧ Below w.heap.size w w' := by
  by_cases hne : L1.length = L2.length
  · obtain ⟨xs1, hr1⟩ : ∃ xs, RowAt w 4 v1 L1.length xs := by obtain ⟨pvs, _, h, _⟩ := h1; exact ⟨_, h.1⟩
    obtain ⟨xs2, hr2⟩ : ∃ xs, RowAt w 4 v2 L2.length xs := by obtain ⟨pvs, _, h, _⟩ := h2; exact ⟨_, h.1⟩
    rcases RowAt.cases hr1 with ⟨h0, _, a1, c1, rfl, _⟩ | ⟨hpos, b1, o1, c1, rfl, p1, p2, _, _⟩
    · have e1 : L1 = [] := List.eq_nil_of_length_eq_zero h0
      have e2 : L2 = [] := List.eq_nil_of_length_eq_zero (by omega)
      subst e1; subst e2
      obtain ⟨_, a2, c2, rfl, _⟩ := hr2
      clear h1 h2 hne h0 hr1
      go_enter Tryz.func16, Tryz.ntmps16
      go_wp2_with fail
      go_loopg [5] 0 (fun g i wr => i = .int .i64 0 ∧ wr = w)
      case atStart => exact ⟨rfl, rfl⟩
      case round =>
        obtain ⟨rfl, rfl⟩ := hrel
        go_wp2_with fail
        go_ret
        exact ⟨_, rfl, by simp, Below.refl _ _⟩
    · rcases RowAt.cases hr2 with ⟨h0, _⟩ | ⟨_, b2, o2, c2, rfl, q1, q2, _, _⟩
      · omega
      obtain ⟨n, hn⟩ : ∃ n, L1.length = n := ⟨_, rfl⟩
      have hn2 : L2.length = n := by omega
      rw [hn] at p1 hl1 h1 ⊢
      rw [hn2] at q1 h2 ⊢
      have H1 := Lib.hid h1
      have H2 := Lib.hid h2
      have HP := Lib.hid hp
      have HN := Lib.hid hn
      have HN2 := Lib.hid hn2
      clear h1 h2 hne hpos hn hn2 hr1 hr2 hp
      go_enter Tryz.func16, Tryz.ntmps16
      go_wp2_with fail
      go_loopg [5] n (fun g i wr => ∃ j : Nat, j + g = n ∧ i = .int .i64 (j : Nat) ∧ L1.take j = L2.take j ∧ Below w.heap.size w wr)
      case atStart => exact ⟨0, by omega, rfl, rfl, Below.refl _ _⟩
      case round =>
        obtain ⟨j, hj, rfl, heq, hbw⟩ := hrel
        have HE := Lib.hid heq
        have HBW := Lib.hid hbw
        clear heq
        cases gk with
        | zero =>
          obtain rfl : j = n := by omega
          have hd : decide ((j : Int) < (j : Int)) = false := decide_eq_false (by omega)
          have hfin : L1 = L2 := by
            have := HE.out
            rwa [List.take_of_length_le (by have := HN.out; omega), List.take_of_length_le (by have := HN2.out; omega)] at this
          have HFIN := Lib.hid hfin
          clear hfin hbw
          go_wp2_with fail
          go_ret
          exact ⟨_, rfl, by simp [HFIN.out], HBW.out⟩
        | succ gk =>
          have hjn : j < n := by omega
          have hd : decide ((j : Int) < (n : Int)) = true := decide_eq_true (by omega)
          obtain ⟨x, g1⟩ : ∃ x, L1[j]? = some x := ⟨_, List.getElem?_eq_getElem (show j < L1.length by have := HN.out; omega)⟩
          obtain ⟨y, g2⟩ : ∃ y, L2[j]? = some y := ⟨_, List.getElem?_eq_getElem (show j < L2.length by have := HN2.out; omega)⟩
          obtain ⟨pv1, k0, k1, k2, k3, M1⟩ := (H1.out.keep (Same.below hbw)).one g1
          obtain ⟨pv2, l0, l1, l2, l3, M2⟩ := (H2.out.keep (Same.below hbw)).one g2
          rw [← Nat.add_assoc] at k1 k2 k3 l1 l2 l3
          have hb1 : (0 : Int) ≤ (j : Int) := by omega
          have hb2 : (j : Int) < (n : Int) := by omega
          have HG1 := Lib.hid g1
          have HG2 := Lib.hid g2
          have HM1 := Lib.hid M1
          have HM2 := Lib.hid M2
          have hpx := HP.out x (List.mem_of_getElem? g1)
          have z0 := regr_cell k0
          have z1 := regr_cell k1
          have z2 := regr_cell k2
          have z3 := regr_cell k3
          have y0 := regr_cell l0
          have y1 := regr_cell l1
          have y2 := regr_cell l2
          have y3 := regr_cell l3
          clear g1 g2 M1 M2 hbw
          go_wp2_with fail
          refine wp_region_norm_below [0, 1, 2, 4, 5, 6] [3, 7] [] [8, 9] [8, 9] (by kernel_rfl) (by kernel_rfl) (fun _ _ d _ _ h => by cases d <;> exact h) ?_
          simp only [pick, List.filterMap_cons, List.filterMap_nil, List.getElem?_toArray, List.getElem?_cons_zero, List.getElem?_cons_succ]
          repeat (first | (with_reducible refine wpQuiet_nil ?_) | quiet_step (fail))
          intro W hW
          change wpList _ _ _ _ _ W
          have HCALL := Lib.hid (sameMsg_any (w := W) (by obtain ⟨q, e, h⟩ := HM1.out; exact ⟨q, e, h.keep (Same.below hW)⟩) (by obtain ⟨q, e, h⟩ := HM2.out; exact ⟨q, e, h.keep (Same.below hW)⟩) hpx)
          have HW := Lib.hid hW
          clear hW z0 z1 z2 z3 y0 y1 y2 y3 k0 k1 k2 k3 l0 l1 l2 l3
          go_wp2_with fail
          refine HCALL.out.mono ?_
          rintro e w' ⟨bb, rfl, hbb, hb'⟩
          have hbx := (HBW.out.trans (HW.out.mono HBW.out.size)).trans (hb'.mono (by have := HW.out.size; have := HBW.out.size; omega))
          have HBB := Lib.hid hbb
          have HBX := Lib.hid hbx
          clear hbb hb' hbx
          cases bb with
          | true =>
            have hxy : x = y := by simpa using HBB.out
            have HXY := Lib.hid hxy
            clear hxy
            go_wp2_with fail
            go_roundg gk
            case measure => omega
            case rel => exact ⟨j + 1, by omega, by go_num, by rw [List.take_add_one, List.take_add_one, HG1.out, HG2.out, HXY.out, HE.out], HBX.out⟩
          | false =>
            have hfin : ¬ L1 = L2 := fun e => by
              have := HG1.out
              rw [e, HG2.out] at this
              injection this with this
              have h2 := HBB.out
              rw [this] at h2
              simp at h2
            have HFIN := Lib.hid hfin
            clear hfin
            go_wp2_with fail
            go_ret
            exact ⟨_, rfl, by simp [HFIN.out], HBX.out⟩
  · have hb : ((L1.length : Int) != (L2.length : Int)) = true := by rw [bne_iff_ne]; omega
    obtain ⟨_, _, ⟨⟨_, a1, c1, rfl, -⟩, _⟩, _⟩ := h1
    obtain ⟨_, _, ⟨⟨_, a2, c2, rfl, -⟩, _⟩, _⟩ := h2
    have hfin : ¬ L1 = L2 := fun e => hne (by rw [e])
    have HFIN := Lib.hid hfin
    clear hfin hp
    generalize L1.length = n1 at *
    generalize L2.length = n2 at *
    clear hne
    go_enter Tryz.func16, Tryz.ntmps16
    go_wp2_with fail
    go_ret
    exact ⟨_, rfl, by simp [HFIN.out], Below.refl _ _⟩
end Go.Proofs.YtgnffkahlniehaaGreat
