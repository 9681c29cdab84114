/- Proved: crierlaw5.TopicPlain returns true for every three texts and every place. (The frame came from the kit's proof-skeleton.mjs.) -/
import Derived.Test.YtmjpnpnmhacknaaRows
import Derived.Test.YtmjpnpnmhacknaaLawPost
import Derived.Test.YtmjpnpnmhacknaaLwA
import Derived.Test.YtmjpnpnmhacknaaLwP
import Derived.Test.YtmjpnpnmhacknaaLwQ
import Derived.Test.YtmjpnpnmhacknaaLwS
import Derived.Test.YtmjpnpnmhacknaaLwT
import Derived.WalkKit
import Derived.ProofKit
import Derived.OpenShut
import Derived.ShutString
namespace Go.Proofs.Ytmjpnpnmhacknaa.topicPlain
open Go.Proofs.Tp Go.ChangeShapes Go.WideShapes Go.ChangeAt Go.RowKit
open Go.ChangeMaps (open_string shut_string)
set_option linter.unusedVariables false      -- a walk need not use every 'w<i>' (that an integer argument fits its kind)

theorem str_true {x y : ByteArray} (h : x = y) : (x.toList == y.toList) = true ∧ (x.toList != y.toList) = false := by subst h; simp
theorem str_false {x y : ByteArray} (h : x ≠ y) : (x.toList == y.toList) = false ∧ (x.toList != y.toList) = true := by
  have h0 : (x.toList == y.toList) = false := by
    rw [beq_eq_false_iff_ne, Lib.toList_data, Lib.toList_data]; exact fun e => h (ba_ext e)
  exact ⟨h0, by unfold bne; rw [h0]; rfl⟩
theorem size_pos {t : ByteArray} (h : chk t = 0) : 0 < t.size := by
  have := (chk_zero.1 h).1; omega

theorem at_S {P : Program} {f : FuncId} {args : Array Value} {w : World} {v : Value} {S : World → Prop} (h : Calls P f args w fun e w' => e = .returned v ∧ Below w.heap.size w w')
    (hS : ∀ u u', S u → Below u.heap.size u u' → S u') (hw : S w) : Calls P f args w fun e w' => e = .returned v ∧ S w' := h.mono fun _ _ ⟨he, h⟩ => ⟨he, hS _ _ hw h⟩
theorem at_SL {P : Program} {f : FuncId} {args : Array Value} {w : World} {L : List ByteArray} {E : Nat} {S : World → Prop}
    (h : Calls P f args w fun e w' => ∃ v, e = .returned v ∧ w'.ownsRow (w.heap.size + 1) E 1 v L.length (L.map Value.string) ∧ Below w.heap.size w w')
    (hS : ∀ u u', S u → Below u.heap.size u u' → S u') (hL : 0 < L.length) (hw : S w) :
    Calls P f args w fun e w' => (∃ b off cap, e = .returned (.slice (some ⟨b, off, none⟩) L.length cap) ∧ L.length ≤ cap ∧ cap ≤ 9223372036854775807) ∧ S w' := h.mono fun _ _ ⟨v, he, ho, h⟩ => by
  obtain ⟨b, off, cap, rfl, q1, q2, _⟩ := (StrsAt.of_owns ho).open hL
  exact ⟨⟨b, off, cap, he, q1, q2⟩, hS _ _ hw h⟩
theorem chk_vals {s : ByteArray} (h : chk s ≠ 0) : chk s = 50 ∨ chk s = 51 ∨ chk s = 52 := by
  unfold chk textE at *
  by_cases c1 : s.size = 0
  · simp [c1]
  · by_cases c2 : isText s = true
    · by_cases c3 : sign s = true
      · simp [c1, c2, c3]
      · simp [c1, c2, c3] at h
    · simp [c1, c2]
theorem hash_list : hashT.toList = [35] := by rw [Lib.toList_data]; rfl

theorem own : ownKnob Try.prog.godebug = none := by kernel_rfl

set_option maxHeartbeats 6000000 in
set_option maxRecDepth 1000000 in
theorem walk (a0 : ByteArray) (a1 : ByteArray) (a2 : ByteArray) (a3 : Int) (w0 : a0.size ≤ maxLen) (w1 : a1.size ≤ maxLen) (w2 : a2.size ≤ maxLen) (w3 : (Lit.int .i64 a3).wf = true) (w : World) :
    Calls Try.prog 5 #[.string a0, .string a1, .string a2, .int .i64 a3] w fun e w' => e = .returned (.bool true) ∧ Below w.heap.size w w' := by
  unfold maxLen at w0 w1 w2
  have hsmall : ∀ {x : ByteArray}, ¬ x.size ≤ 5000 → (5000 : Int) < (x.size : Int) := fun h => by omega
  by_cases h0 : a0.size ≤ 5000
  case neg =>
    have hI := hsmall h0
    go_enter Try.func5, Try.ntmps5
    go_wp2_with fail
    go_ret
    exact ⟨rfl, Below.refl _ _⟩
  by_cases h1 : a1.size ≤ 5000
  case neg =>
    have hI := hsmall h1
    have hI0 : ¬ ((5000 : Int) < (a0.size : Int)) := by omega
    go_enter Try.func5, Try.ntmps5
    go_wp2_with fail
    go_ret
    exact ⟨rfl, Below.refl _ _⟩
  by_cases h2 : a2.size ≤ 5000
  case neg =>
    have hI := hsmall h2
    have hI0 : ¬ ((5000 : Int) < (a0.size : Int)) := by omega
    have hI1 : ¬ ((5000 : Int) < (a1.size : Int)) := by omega
    go_enter Try.func5, Try.ntmps5
    go_wp2_with fail
    go_ret
    exact ⟨rfl, Below.refl _ _⟩
  have hI0 : ¬ ((5000 : Int) < (a0.size : Int)) := by omega
  have hI1 : ¬ ((5000 : Int) < (a1.size : Int)) := by omega
  have hI2 : ¬ ((5000 : Int) < (a2.size : Int)) := by omega
  have b0 : a0.size ≤ 1000000000 := by omega
  have b1 : a1.size ≤ 1000000000 := by omega
  have b2 : a2.size ≤ 1000000000 := by omega
  clear w0 w1 w2
  have HK := Lib.hid (show -9223372036854775808 ≤ a3 ∧ a3 ≤ 9223372036854775807 from by have := w3; simp [Lit.wf, IntKind.min, IntKind.max, IntKind.bits, IntKind.signed] at this; exact this)
  have L0 := Lib.hid (levels_len a0 b0)
  have hb : Below w.heap.size w w := Below.refl _ _
  go_enter Try.func5, Try.ntmps5
  go_wp2_with fail
  refine (at_below (known_any _) hb).mono ?_
  clear hb
  rintro e wk ⟨rfl, hb⟩
  go_upto_region 5 with fail
  go_cut [59] (fun s59 wx => s59 = .bool false ∧ Below w.heap.size w wx)
  case first =>
    by_cases c1 : chk a1 = 0
    case neg =>
      have k1 : (chk a1 == 0) = false := by rw [beq_eq_false_iff_ne]; exact c1
      have k1n : (chk a1 != 0) = true := by unfold bne; rw [k1]; rfl
      clear c1
      go_wp2_with fail
      refine (at_below (check_any a1 _ b1) hb).mono ?_
      clear hb
      rintro e xa ⟨rfl, hb⟩
      go_wp2_with fail
      go_meet
      case rel => exact ⟨rfl, hb⟩
    have k1 : (chk a1 == 0) = true := by rw [c1]; rfl
    have k1n : (chk a1 != 0) = false := by rw [c1]; rfl
    cases hs : shared a1 with
    | some p =>
      have HS := Lib.hid (show (shared a1).isSome = true from by rw [hs]; rfl)
      clear hs c1
      go_wp2_with fail
      refine (at_below (check_any a1 _ b1) hb).mono ?_
      clear hb
      rintro e xa ⟨rfl, hb⟩
      go_wp2_with fail
      refine (at_below (lwShared_any a1 _ b1) hb).mono ?_
      clear hb
      rintro e xa ⟨rfl, hb⟩
      rw [HS.out]
      go_wp2_with fail
      go_meet
      case rel => exact ⟨rfl, hb⟩
    | none =>
      have HS := Lib.hid (show (shared a1).isSome = false from by rw [hs]; rfl)
      have k2 : (chkF a1 != 0) = false := by rw [plain_chkF c1]; rfl
      have HM1 := Lib.hid (show matchT a1 a1 = true from by rw [plain_match c1 hs, decide_eq_true rfl, decide_eq_true c1]; rfl)
      by_cases c3 : a1 = a2
      · obtain ⟨e1, e2⟩ := str_true c3
        have k3 : (chk a2 == 0) = true := by rw [← c3, c1]; rfl
        have k3n : (chk a2 != 0) = false := by rw [← c3, c1]; rfl
        have HM2 := Lib.hid (show matchT a1 a2 = true from by rw [plain_match c1 hs, decide_eq_true c3, decide_eq_true (show chk a2 = 0 from by rw [← c3, c1])]; rfl)
        clear c3 c1 hs
        go_wp2_with fail
        refine (at_below (check_any a1 _ b1) hb).mono ?_
        clear hb
        rintro e xa ⟨rfl, hb⟩
        go_wp2_with fail
        refine (at_below (lwShared_any a1 _ b1) hb).mono ?_
        clear hb
        rintro e xa ⟨rfl, hb⟩
        rw [HS.out]
        go_wp2_with fail
        refine (at_below (checkFilter_any a1 _ b1) hb).mono ?_
        clear hb
        rintro e xa ⟨rfl, hb⟩
        go_wp2_with fail
        refine (at_below (match_any a1 a1 _ b1 b1) hb).mono ?_
        clear hb
        rintro e xa ⟨rfl, hb⟩
        rw [HM1.out]
        go_wp2_with fail
        refine (at_below (match_any a1 a2 _ b1 b2) hb).mono ?_
        clear hb
        rintro e xa ⟨rfl, hb⟩
        rw [HM2.out]
        go_wp2_with fail
        refine (at_below (check_any a2 _ b2) hb).mono ?_
        clear hb
        rintro e xa ⟨rfl, hb⟩
        go_wp2_with fail
        go_meet
        case rel => exact ⟨rfl, hb⟩
      · obtain ⟨e1, e2⟩ := str_false c3
        have HM2 := Lib.hid (show matchT a1 a2 = false from by rw [plain_match c1 hs, decide_eq_false c3]; rfl)
        clear c3 c1 hs
        go_wp2_with fail
        refine (at_below (check_any a1 _ b1) hb).mono ?_
        clear hb
        rintro e xa ⟨rfl, hb⟩
        go_wp2_with fail
        refine (at_below (lwShared_any a1 _ b1) hb).mono ?_
        clear hb
        rintro e xa ⟨rfl, hb⟩
        rw [HS.out]
        go_wp2_with fail
        refine (at_below (checkFilter_any a1 _ b1) hb).mono ?_
        clear hb
        rintro e xa ⟨rfl, hb⟩
        go_wp2_with fail
        refine (at_below (match_any a1 a1 _ b1 b1) hb).mono ?_
        clear hb
        rintro e xa ⟨rfl, hb⟩
        rw [HM1.out]
        go_wp2_with fail
        refine (at_below (match_any a1 a2 _ b1 b2) hb).mono ?_
        clear hb
        rintro e xa ⟨rfl, hb⟩
        rw [HM2.out]
        go_wp2_with fail
        go_meet
        case rel => exact ⟨rfl, hb⟩
  case rest =>
    obtain ⟨rfl, hb⟩ := hcut
    go_wp2_with fail
    refine (at_below (match_any a0 a1 _ b0 b1) hb).mono ?_
    clear hb
    rintro e xa ⟨rfl, hb⟩
    go_upto_if 62 with fail
    go_cut [] (fun wx => Below w.heap.size w wx)
    case first =>
      cases hm : matchT a0 a1 with
      | false =>
        go_wp2_with fail
        go_meet
        case rel => exact hb
      | true =>
        have ht : chk a1 = 0 := Classical.byContradiction fun h => by rw [matchT_no (.inr (.inr h))] at hm; cases hm
        have hT := chk_size ht
        have hTI : (0 : Int) < (a1.size : Int) := by omega
        have HHT := Lib.hid (head_eq a1 hT)
        go_wp2_with fail
        refine (levels_any a0 _ b0).mono ?_
        rintro e xb ⟨v1, rfl, hown1, hc1⟩
        obtain ⟨bb1, oo1, cc1, rfl, qa1, qb1, qB1, qc1, qd1, qf1⟩ := owns_open hown1 L0.out.1
        clear hown1
        have hb2 := hb.trans (hc1.mono hb.size)
        have hB1 := Nat.le_trans (Nat.le_succ_of_le hb.size) qB1
        clear hb hc1 qB1
        have hb := hb2
        clear hb2
        have HD1 := Lib.hid qd1
        have HF1 := Lib.hid qf1
        clear qd1 qf1
        obtain ⟨n, hn⟩ : ∃ n, (levels a0).length = n := ⟨_, rfl⟩
        have HN := Lib.hid hn
        have hn0 := L0.out
        rw [hn] at qa1 hn0 ⊢
        clear hn
        go_wp2_with fail
        refine (place_any a3 n _ (by omega) (by omega) HK.out.1 HK.out.2).mono ?_
        rintro e xc ⟨⟨r, rfl, hr⟩, rfl⟩
        have hrn : r < n := by omega
        have hrnI : (r : Int) < (n : Int) := by omega
        obtain ⟨x, hx⟩ : ∃ x, (levels a0)[r]? = some x := ⟨_, List.getElem?_eq_getElem (by rw [HN.out]; exact hrn)⟩
        have HX := Lib.hid hx
        have hcx := HD1.out r x hx
        clear hx
        have hsz : (joinT ((levels a0).set r ⟨#[43]⟩)).size ≤ 1000000000 := by
          have := size_set (levels a0) r ⟨#[43]⟩
          rw [joinT_levels] at this
          have h1 : (⟨#[43]⟩ : ByteArray).size = 1 := rfl
          omega
        by_cases c2 : x = hashT
        · obtain ⟨e1, e2⟩ : (x.toList == [35]) = true ∧ (x.toList != [35]) = false := by rw [c2, hash_list]; exact ⟨rfl, rfl⟩
          clear c2
          go_wp2_with fail
          go_meet
          case rel => exact hb
        · obtain ⟨e1, e2⟩ := str_false c2
          rw [hash_list] at e1 e2
          have HC2 := Lib.hid c2
          clear c2
          by_cases cr : r = 0
          · have kr : ((r : Int) == 0) = true := by rw [cr]; rfl
            by_cases cT : a1[0].toNat = 36
            · have fT : ((a1[0].toNat : Int) == 36) = true := by rw [cT]; rfl
              clear cr cT
              go_wp2_with fail
              go_meet
              case rel => exact hb
            · have fT : ((a1[0].toNat : Int) == 36) = false := by rw [beq_eq_false_iff_ne]; omega
              have HP := Lib.hid (show ¬ (r = 0 ∧ a1.data.toList.head? = some 36) from fun h => cT (by rw [← HHT.out]; exact h.2))
              clear cr cT
              have hsx := hcx
              have hfx := HF1.out (oo1 + r)
              have SA : StrsAt (xb.setCell ⟨bb1, oo1 + r, none⟩ (.string ⟨#[43]⟩)) (.slice (some ⟨bb1, oo1, none⟩) n cc1) ((levels a0).set r ⟨#[43]⟩) := by
                have := set_at (w := xb) (b := bb1) (off := oo1) (cap := cc1) (r := r) (L := levels a0) (y := ⟨#[43]⟩) (by rw [HN.out]; exact hrn) (by rw [HN.out]; exact qa1) qb1 HD1.out
                rw [HN.out] at this; exact this
              have hb7 : Below w.heap.size w (xb.setCell ⟨bb1, oo1 + r, none⟩ (.string ⟨#[43]⟩)) := Below.setCell hb hB1 _
              have HSA := Lib.hid SA
              have HB7 := Lib.hid hb7
              have JL := Lib.hid (show 0 < ((levels a0).set r ⟨#[43]⟩).length ∧ ((levels a0).set r ⟨#[43]⟩).length ≤ 1000000001 from by rw [List.length_set, HN.out]; exact hn0)
              clear SA hb7 hb HD1 HF1
              cases hsj : shared (joinT ((levels a0).set r ⟨#[43]⟩)) with
              | some q =>
                have HSJ := Lib.hid (show (shared (joinT ((levels a0).set r ⟨#[43]⟩))).isSome = true from by rw [hsj]; rfl)
                clear hsj
                go_wp2_with fail
                generalize xb.setCell ⟨bb1, oo1 + r, none⟩ (.string ⟨#[43]⟩) = x7 at HSA HB7 ⊢
                refine (at_below (join_any ((levels a0).set r ⟨#[43]⟩) _ _ HSA.out JL.out.1 JL.out.2 hsz) HB7.out).mono ?_
                clear HSA HB7
                rintro e x8 ⟨rfl, hb⟩
                go_wp2_with fail
                refine (at_below (lwShared_any _ _ hsz) hb).mono ?_
                clear hb
                rintro e xa ⟨rfl, hb⟩
                rw [HSJ.out]
                go_wp2_with fail
                go_meet
                case rel => exact hb
              | none =>
                have HSJ := Lib.hid (show (shared (joinT ((levels a0).set r ⟨#[43]⟩))).isSome = false from by rw [hsj]; rfl)
                have HMJ := Lib.hid (show matchT (joinT ((levels a0).set r ⟨#[43]⟩)) a1 = true from match_put hm HX.out HC2.out HP.out h0 hsj)
                clear hsj
                go_wp2_with fail
                generalize xb.setCell ⟨bb1, oo1 + r, none⟩ (.string ⟨#[43]⟩) = x7 at HSA HB7 ⊢
                refine (join_any ((levels a0).set r ⟨#[43]⟩) _ _ HSA.out JL.out.1 JL.out.2 hsz).mono ?_
                rintro e x8 ⟨rfl, hbj⟩
                have HSA2 := Lib.hid (HSA.out.below hbj)
                have hb := HB7.out.trans (hbj.mono HB7.out.size)
                clear HSA HB7 hbj
                go_wp2_with fail
                refine (lwShared_any _ _ hsz).mono ?_
                rintro e x9 ⟨rfl, hbj⟩
                have HSA3 := Lib.hid (HSA2.out.below hbj)
                have hb2 := hb.trans (hbj.mono hb.size)
                clear HSA2 hbj hb
                have hb := hb2
                clear hb2
                rw [HSJ.out]
                go_wp2_with fail
                refine (at_below (join_any ((levels a0).set r ⟨#[43]⟩) _ _ HSA3.out JL.out.1 JL.out.2 hsz) hb).mono ?_
                clear HSA3 hb
                rintro e xa ⟨rfl, hb⟩
                go_wp2_with fail
                refine (at_below (match_any _ a1 _ hsz b1) hb).mono ?_
                clear hb
                rintro e xe ⟨rfl, hb⟩
                rw [HMJ.out]
                go_wp2_with fail
                go_meet
                case rel => exact hb
          · have kr : ((r : Int) == 0) = false := by rw [beq_eq_false_iff_ne]; omega
            have HP := Lib.hid (show ¬ (r = 0 ∧ a1.data.toList.head? = some 36) from fun h => cr h.1)
            clear cr
            have hsx := hcx
            have hfx := HF1.out (oo1 + r)
            have SA : StrsAt (xb.setCell ⟨bb1, oo1 + r, none⟩ (.string ⟨#[43]⟩)) (.slice (some ⟨bb1, oo1, none⟩) n cc1) ((levels a0).set r ⟨#[43]⟩) := by
              have := set_at (w := xb) (b := bb1) (off := oo1) (cap := cc1) (r := r) (L := levels a0) (y := ⟨#[43]⟩) (by rw [HN.out]; exact hrn) (by rw [HN.out]; exact qa1) qb1 HD1.out
              rw [HN.out] at this; exact this
            have hb7 : Below w.heap.size w (xb.setCell ⟨bb1, oo1 + r, none⟩ (.string ⟨#[43]⟩)) := Below.setCell hb hB1 _
            have HSA := Lib.hid SA
            have HB7 := Lib.hid hb7
            have JL := Lib.hid (show 0 < ((levels a0).set r ⟨#[43]⟩).length ∧ ((levels a0).set r ⟨#[43]⟩).length ≤ 1000000001 from by rw [List.length_set, HN.out]; exact hn0)
            clear SA hb7 hb HD1 HF1
            cases hsj : shared (joinT ((levels a0).set r ⟨#[43]⟩)) with
            | some q =>
              have HSJ := Lib.hid (show (shared (joinT ((levels a0).set r ⟨#[43]⟩))).isSome = true from by rw [hsj]; rfl)
              clear hsj
              go_wp2_with fail
              generalize xb.setCell ⟨bb1, oo1 + r, none⟩ (.string ⟨#[43]⟩) = x7 at HSA HB7 ⊢
              refine (at_below (join_any ((levels a0).set r ⟨#[43]⟩) _ _ HSA.out JL.out.1 JL.out.2 hsz) HB7.out).mono ?_
              clear HSA HB7
              rintro e x8 ⟨rfl, hb⟩
              go_wp2_with fail
              refine (at_below (lwShared_any _ _ hsz) hb).mono ?_
              clear hb
              rintro e xa ⟨rfl, hb⟩
              rw [HSJ.out]
              go_wp2_with fail
              go_meet
              case rel => exact hb
            | none =>
              have HSJ := Lib.hid (show (shared (joinT ((levels a0).set r ⟨#[43]⟩))).isSome = false from by rw [hsj]; rfl)
              have HMJ := Lib.hid (show matchT (joinT ((levels a0).set r ⟨#[43]⟩)) a1 = true from match_put hm HX.out HC2.out HP.out h0 hsj)
              clear hsj
              go_wp2_with fail
              generalize xb.setCell ⟨bb1, oo1 + r, none⟩ (.string ⟨#[43]⟩) = x7 at HSA HB7 ⊢
              refine (join_any ((levels a0).set r ⟨#[43]⟩) _ _ HSA.out JL.out.1 JL.out.2 hsz).mono ?_
              rintro e x8 ⟨rfl, hbj⟩
              have HSA2 := Lib.hid (HSA.out.below hbj)
              have hb := HB7.out.trans (hbj.mono HB7.out.size)
              clear HSA HB7 hbj
              go_wp2_with fail
              refine (lwShared_any _ _ hsz).mono ?_
              rintro e x9 ⟨rfl, hbj⟩
              have HSA3 := Lib.hid (HSA2.out.below hbj)
              have hb2 := hb.trans (hbj.mono hb.size)
              clear HSA2 hbj hb
              have hb := hb2
              clear hb2
              rw [HSJ.out]
              go_wp2_with fail
              refine (at_below (join_any ((levels a0).set r ⟨#[43]⟩) _ _ HSA3.out JL.out.1 JL.out.2 hsz) hb).mono ?_
              clear HSA3 hb
              rintro e xa ⟨rfl, hb⟩
              go_wp2_with fail
              refine (at_below (match_any _ a1 _ hsz b1) hb).mono ?_
              clear hb
              rintro e xe ⟨rfl, hb⟩
              rw [HMJ.out]
              go_wp2_with fail
              go_meet
              case rel => exact hb
    case rest =>
      have hb := hcut
      clear hcut
      have z1 : (⟨#[47, 35]⟩ : ByteArray).size = 2 := rfl
      have z2 : (⟨#[47, 43, 47, 35]⟩ : ByteArray).size = 4 := rfl
      have y1 : (a0 ++ ⟨#[47, 35]⟩ : ByteArray).size ≤ 1000000000 := by rw [ByteArray.size_append]; omega
      have y2 : (a0 ++ ⟨#[47, 43, 47, 35]⟩ : ByteArray).size ≤ 1000000000 := by rw [ByteArray.size_append]; omega
      clear z1 z2
      go_wp2_with fail
      refine (levels_any a0 _ b0).mono ?_
      rintro e xb ⟨v1, rfl, hown1, hc1⟩
      obtain ⟨bb1, oo1, cc1, rfl, qa1, qb1, qB1, qc1, qd1, qf1⟩ := owns_open hown1 L0.out.1
      clear hown1 qf1 qB1
      have hb2 := hb.trans (hc1.mono hb.size)
      clear hb hc1
      have hb := hb2
      clear hb2
      have HD1 := Lib.hid qd1
      clear qd1
      obtain ⟨n, hn⟩ : ∃ n, (levels a0).length = n + 1 := ⟨(levels a0).length - 1, by have := L0.out.1; omega⟩
      have HN := Lib.hid hn
      have hn0 := L0.out
      rw [hn] at qa1 hn0 ⊢
      clear hn
      by_cases c1 : chkF a0 = 0
      case neg =>
        have k1 : (chkF a0 == 0) = false := by rw [beq_eq_false_iff_ne]; exact c1
        have k1n : (chkF a0 != 0) = true := by unfold bne; rw [k1]; rfl
        clear c1
        go_wp2_with fail
        refine (at_below (checkFilter_any a0 _ b0) hb).mono ?_
        clear hb
        rintro e xa ⟨rfl, hb⟩
        go_wp2_with fail
        go_ret
        exact ⟨rfl, hb⟩
      have k1 : (chkF a0 == 0) = true := by rw [c1]; rfl
      have k1n : (chkF a0 != 0) = false := by rw [c1]; rfl
      have HC1 := Lib.hid c1
      clear c1
      obtain ⟨x, hx⟩ : ∃ x, (levels a0)[n]? = some x := ⟨_, List.getElem?_eq_getElem (by rw [HN.out]; omega)⟩
      have HX := Lib.hid hx
      have hcx := HD1.out n x hx
      clear hx
      go_wp2_with fail
      refine (checkFilter_any a0 _ b0).mono ?_
      rintro e xd ⟨rfl, hc2⟩
      have hcy := (hc2.cell qc1).trans hcx
      have hb2 := hb.trans (hc2.mono hb.size)
      clear hb hc2 hcx
      have hb := hb2
      clear hb2
      by_cases c2 : x = hashT
      · obtain ⟨e1, e2⟩ : (x.toList == [35]) = true ∧ (x.toList != [35]) = false := by rw [c2, hash_list]; exact ⟨rfl, rfl⟩
        clear c2
        go_wp2_with fail
        go_ret
        exact ⟨rfl, hb⟩
      obtain ⟨e1, e2⟩ := str_false c2
      rw [hash_list] at e1 e2
      have HL := Lib.hid (show ∀ z, (levels a0).getLast? = some z → z ≠ hashT from fun z hz => by
        rw [List.getLast?_eq_getElem?, HN.out, show n + 1 - 1 = n from rfl, HX.out] at hz
        rw [← Option.some.inj hz]; exact c2)
      clear c2
      cases s1 : shared a0 with
      | some p =>
        have HS1 := Lib.hid (show (shared a0).isSome = true from by rw [s1]; rfl)
        clear s1
        go_wp2_with fail
        refine (at_below (lwShared_any a0 _ b0) hb).mono ?_
        clear hb
        rintro e xa ⟨rfl, hb⟩
        rw [HS1.out]
        go_wp2_with fail
        go_ret
        exact ⟨rfl, hb⟩
      | none =>
        have HS1 := Lib.hid (show (shared a0).isSome = false from by rw [s1]; rfl)
        go_wp2_with fail
        refine (at_below (lwShared_any a0 _ b0) hb).mono ?_
        clear hb
        rintro e xa ⟨rfl, hb⟩
        rw [HS1.out]
        cases s2 : shared (a0 ++ ⟨#[47, 35]⟩) with
        | some p =>
          have HS2 := Lib.hid (show (shared (a0 ++ ⟨#[47, 35]⟩)).isSome = true from by rw [s2]; rfl)
          clear s2
          go_wp2_with fail
          refine (at_below (lwShared_any _ _ y1) hb).mono ?_
          clear hb
          rintro e xa ⟨rfl, hb⟩
          rw [HS2.out]
          go_wp2_with fail
          go_ret
          exact ⟨rfl, hb⟩
        | none =>
          have HS2 := Lib.hid (show (shared (a0 ++ ⟨#[47, 35]⟩)).isSome = false from by rw [s2]; rfl)
          go_wp2_with fail
          refine (at_below (lwShared_any _ _ y1) hb).mono ?_
          clear hb
          rintro e xa ⟨rfl, hb⟩
          rw [HS2.out]
          cases s3 : shared (a0 ++ ⟨#[47, 43, 47, 35]⟩) with
          | some p =>
            have HS3 := Lib.hid (show (shared (a0 ++ ⟨#[47, 43, 47, 35]⟩)).isSome = true from by rw [s3]; rfl)
            clear s3
            go_wp2_with fail
            refine (at_below (lwShared_any _ _ y2) hb).mono ?_
            clear hb
            rintro e xa ⟨rfl, hb⟩
            rw [HS3.out]
            go_wp2_with fail
            go_ret
            exact ⟨rfl, hb⟩
          | none =>
            have HS3 := Lib.hid (show (shared (a0 ++ ⟨#[47, 43, 47, 35]⟩)).isSome = false from by rw [s3]; rfl)
            go_wp2_with fail
            refine (at_below (lwShared_any _ _ y2) hb).mono ?_
            clear hb
            rintro e xa ⟨rfl, hb⟩
            rw [HS3.out]
            have HMM := Lib.hid (match_hash (t := a1) HC1.out HL.out h0 s1 s2 s3)
            clear s1 s2 s3
            go_wp2_with fail
            refine (at_below (match_any _ a1 _ y1 b1) hb).mono ?_
            clear hb
            rintro e xa ⟨rfl, hb⟩
            go_wp2_with fail
            refine (at_below (match_any a0 a1 _ b0 b1) hb).mono ?_
            clear hb
            rintro e xa ⟨rfl, hb⟩
            rw [HMM.out]
            cases hm : matchT a0 a1 with
            | true =>
              go_wp2_with fail
              go_ret
              exact ⟨rfl, hb⟩
            | false =>
              go_wp2_with fail
              refine (at_below (match_any _ a1 _ y2 b1) hb).mono ?_
              clear hb
              rintro e xa ⟨rfl, hb⟩
              go_wp2_with fail
              go_ret
              exact ⟨by simp, hb⟩

/-! ### THE ROW's STEP: WRITTEN OUT: LEAVE IT -/
set_option maxRecDepth 100000 in
theorem lifted (os : Os) (started : os.Started) (H : Type) (enc : TypeId × Value → H) :
    ReturnsInHanded {} Try.checked os 5 .any (Rows.topicPlainSpec.pre6 enc Try.prog Try.f5 Rows.topicPlainRow.domain false) (Rows.topicPlainSpec.post enc Try.prog Try.f5 false true false false) := by
  refine returnsInHanded_of_change (C := Try.checked) own started (by kernel_rfl) Try.func5
    (ChangeSpec.witness6 (enc := enc) (C := Try.checked) false ⟨#[], #[.string ByteArray.empty, .string ByteArray.empty, .string ByteArray.empty, .int .i64 0], []⟩ 8 (by kernel_rfl) (by kernel_rfl) (by kernel_rfl) (by kernel_rfl)) ?_
  intro W base args ds gs before hval0 hW hcnd _
  have hval : ∀ (j : Nat) t v, Try.f5.params[j]? = some t → args[j]? = some v → Value.okWide Try.prog W .any base t v := hval0
  have hW' := hW
  obtain ⟨p, q, hA0, hV, rfl, hfz, hnd⟩ := hW
  have hA : DataW.TrodAll enc Try.prog W 0 (fun _ => true) true Try.f5.params.toList args.toList ds p := hA0
  rw [Try.params5] at hA hval
  obtain ⟨v0, vs0, d0, ds0, p0, q0, hargs, rfl, rfl, h0, r0⟩ := trodAll_cons hA
  obtain ⟨v1, vs1, d1, ds1, p1, q1, rfl, rfl, rfl, h1, r1⟩ := trodAll_cons r0
  obtain ⟨v2, vs2, d2, ds2, p2, q2, rfl, rfl, rfl, h2, r2⟩ := trodAll_cons r1
  obtain ⟨v3, vs3, d3, ds3, p3, q3, rfl, rfl, rfl, h3, r3⟩ := trodAll_cons r2
  obtain ⟨rfl, rfl, rfl⟩ := trodAll_nil r3
  obtain rfl : args = #[v0, v1, v2, v3] := by cases args; simp_all
  obtain ⟨rfl, rfl⟩ := trodVars_none hV
  obtain ⟨a0, rfl, rfl, rfl, w0⟩ := open_string Try.underlying9 (hval 0 9 v0 rfl rfl) h0
  obtain ⟨a1, rfl, rfl, rfl, w1⟩ := open_string Try.underlying9 (hval 1 9 v1 rfl rfl) h1
  obtain ⟨a2, rfl, rfl, rfl, w2⟩ := open_string Try.underlying9 (hval 2 9 v2 rfl rfl) h2
  obtain ⟨a3, rfl, rfl, rfl, w3⟩ := open_int Try.underlying3 (hval 3 3 v3 rfl rfl) h3
  clear hA0 hval0
  simp only [List.append_nil] at hW'
  refine (walk a0 a1 a2 a3 w0 w1 w2 w3 W).mono fun e W' ⟨he, hg⟩ => ?_
  subst he
  exact ⟨_, rfl, law_post hW' hg (fun _ => (trodAll_cons_mk (shut_bool Try.underlying4 _) trodAll_mk0)) ((trodAll_cons_mk (shut_string Try.underlying9 w0) (trodAll_cons_mk (shut_string Try.underlying9 w1) (trodAll_cons_mk (shut_string Try.underlying9 w2) (trodAll_cons_mk (shut_int Try.underlying3 w3) trodAll_mk0))))) rfl⟩

theorem over : Rows.topicPlainRow.holds Try.pinned (OpenSpec.ofChange Rows.topicPlainSpec) :=
  OpenClaim.holds_of_wide 5 Try.f5 rfl rfl rfl rfl rfl rfl rfl ⟨rfl, rfl, rfl, rfl, rfl⟩ rfl rfl rfl rfl rfl (by kernel_rfl) Try.func5 (by kernel_rfl)
    (of_decide_eq_true (by kernel_rfl)) (by unfold Func.isWrapper; first | (rw [if_pos (by decide +kernel)]; kernel_rfl) | (rw [if_neg (by decide +kernel)]; exact ⟨rfl, rfl⟩))
    (fun os started H enc _ => lifted os started H enc)

/-- ████ THE STATEMENT ████ -/
theorem proved : Rows.TopicPlainSaid :=
  over
#print axioms proved
end Go.Proofs.Ytmjpnpnmhacknaa.topicPlain
