/- Proved here: the contract of topic.Match. -/
import Derived.Test.YtmjpnpnmhacknaaTpShared
namespace Go.Proofs.Ytmjpnpnmhacknaa
open Go.RowKit Go.Proofs.Tp

theorem chk_size {t : ByteArray} (h : chk t = 0) : 0 < t.size := by
  unfold chk at h
  by_cases h0 : t.size = 0
  · have : textE t = 50 := by unfold textE; rw [if_pos h0]
    rw [this] at h; simp at h
  · omega

theorem head_eq (t : ByteArray) (h : 0 < t.size) : (t.data.toList.head? = some 36) = (t[0].toNat = 36) := by
  have hl : 0 < t.data.toList.length := by simpa using h
  have e : t.data.toList.head? = some t[0] := by
    rw [List.head?_eq_getElem?, List.getElem?_eq_getElem hl]; rfl
  rw [e]
  apply propext
  constructor
  · intro x; rw [Option.some.inj x]; rfl
  · intro x; congr 1; exact UInt8.toNat.inj x

set_option maxHeartbeats 2000000 in
set_option maxRecDepth 100000 in
theorem match_any (f t : ByteArray) (w : World) (hs : f.size ≤ 1000000000) (ht : t.size ≤ 1000000000) :
    Calls Try.prog 10 #[.string f, .string t] w fun e w' => e = .returned (.bool (matchT f t)) ∧ Below w.heap.size w w' := by
  have hm : matchT f t = if (shared f).isSome ∨ chkF f ≠ 0 ∨ chk t ≠ 0 then false
    else if t.data.toList.head? = some 36 ∧ ((levels f).head?.map (·.data.toList) = some [43] ∨ (levels f).head?.map (·.data.toList) = some [35]) then false
    else goesL (levels f) (levels t) := rfl
  cases hsf : shared f with
  | some p =>
    obtain ⟨g, i⟩ := p
    have HS := Lib.hid (sharedV_some hsf)
    have HM := Lib.hid (show matchT f t = false from by rw [hm, if_pos (.inl (by rw [hsf]; rfl))])
    clear hm hsf
    go_enter Try.func10, Try.ntmps10
    go_wp2_with fail
    refine (shared_any f _ hs).mono ?_
    rintro e w1 ⟨rfl, hb1⟩
    rw [HS.out]
    go_wp2_with fail
    go_ret
    exact ⟨ret_bool HM.out.symm, hb1⟩
  | none =>
    have HS := Lib.hid (sharedV_none hsf)
    by_cases cf : chkF f = 0
    · have ff : (chkF f != 0) = false := by rw [cf]; rfl
      by_cases ct : chk t = 0
      · have ft : (chk t != 0) = false := by rw [ct]; rfl
        have hlf := levels_len f hs
        have hto := chk_size ct
        have hhe := head_eq t hto
        obtain ⟨x, hx⟩ : ∃ x, (levels f)[0]? = some x := ⟨(levels f)[0]'hlf.1, List.getElem?_eq_getElem _⟩
        have hhx : (levels f).head?.map (·.data.toList) = some x.data.toList := by rw [List.head?_eq_getElem?, hx]; rfl
        have HX := Lib.hid hx
        rw [if_neg (by rw [hsf]; rintro (h | h | h); exact absurd h (by simp); exact h cf; exact h ct), hhx] at hm
        have htoI : (0 : Int) < (t.size : Int) := by omega
        by_cases c36 : t[0].toNat = 36
        · have f36 : ((t[0].toNat : Int) == 36) = true := by rw [c36]; rfl
          by_cases c43 : x.data.toList = [43]
          · have f43 : (x.toList == [43]) = true := by rw [strEq, decide_eq_true c43]
            have HM := Lib.hid (show matchT f t = false from by rw [hm, if_pos ⟨Eq.mpr hhe c36, .inl (by rw [c43])⟩])
            clear hm hsf cf ct hhe hx hhx c36 c43
            go_enter Try.func10, Try.ntmps10
            go_wp2_with fail
            refine (shared_any f _ hs).mono ?_
            rintro e w1 ⟨rfl, hb1⟩
            rw [HS.out]
            go_wp2_with fail
            refine (checkFilter_any f _ hs).mono ?_
            rintro e w2 ⟨rfl, hb2⟩
            have HB2 := Lib.hid (hb1.trans (hb2.mono hb1.size))
            go_wp2_with fail
            refine (check_any t _ ht).mono ?_
            rintro e w3 ⟨rfl, hb3⟩
            have HB3 := Lib.hid (HB2.out.trans (hb3.mono HB2.out.size))
            go_wp2_with fail
            refine (levels_any f _ hs).mono ?_
            rintro e w4 ⟨v, rfl, hown, hb4⟩
            have HB4 := Lib.hid (HB3.out.trans (hb4.mono HB3.out.size))
            have HST := Lib.hid (StrsAt.of_owns hown)
            obtain ⟨b, off, cap, rfl, q1, q2, q3, q4⟩ := HST.out.open hlf.1
            have hf0 : w4.cell? ⟨b, off, none⟩ = some (.string x) := q4 0 x HX.out
            clear q4 hown
            go_wp2_with fail
            go_ret
            exact ⟨ret_bool HM.out.symm, HB4.out⟩
          · have f43 : (x.toList == [43]) = false := by rw [strEq, decide_eq_false c43]
            by_cases c35 : x.data.toList = [35]
            · have f35 : (x.toList == [35]) = true := by rw [strEq, decide_eq_true c35]
              have HM := Lib.hid (show matchT f t = false from by rw [hm, if_pos ⟨Eq.mpr hhe c36, .inr (by rw [c35])⟩])
              clear hm hsf cf ct hhe hx hhx c36 c43 c35
              go_enter Try.func10, Try.ntmps10
              go_wp2_with fail
              refine (shared_any f _ hs).mono ?_
              rintro e w1 ⟨rfl, hb1⟩
              rw [HS.out]
              go_wp2_with fail
              refine (checkFilter_any f _ hs).mono ?_
              rintro e w2 ⟨rfl, hb2⟩
              have HB2 := Lib.hid (hb1.trans (hb2.mono hb1.size))
              go_wp2_with fail
              refine (check_any t _ ht).mono ?_
              rintro e w3 ⟨rfl, hb3⟩
              have HB3 := Lib.hid (HB2.out.trans (hb3.mono HB2.out.size))
              go_wp2_with fail
              refine (levels_any f _ hs).mono ?_
              rintro e w4 ⟨v, rfl, hown, hb4⟩
              have HB4 := Lib.hid (HB3.out.trans (hb4.mono HB3.out.size))
              have HST := Lib.hid (StrsAt.of_owns hown)
              obtain ⟨b, off, cap, rfl, q1, q2, q3, q4⟩ := HST.out.open hlf.1
              have hf0 : w4.cell? ⟨b, off, none⟩ = some (.string x) := q4 0 x HX.out
              clear q4 hown
              go_wp2_with fail
              go_ret
              exact ⟨ret_bool HM.out.symm, HB4.out⟩
            · have f35 : (x.toList == [35]) = false := by rw [strEq, decide_eq_false c35]
              have HM := Lib.hid (show matchT f t = goesL (levels f) (levels t) from by rw [hm, if_neg (by rintro ⟨_, h | h⟩; exact c43 (Option.some.inj h); exact c35 (Option.some.inj h))])
              clear hm hsf cf ct hhe hx hhx c36 c43 c35
              go_enter Try.func10, Try.ntmps10
              go_wp2_with fail
              refine (shared_any f _ hs).mono ?_
              rintro e w1 ⟨rfl, hb1⟩
              rw [HS.out]
              go_wp2_with fail
              refine (checkFilter_any f _ hs).mono ?_
              rintro e w2 ⟨rfl, hb2⟩
              have HB2 := Lib.hid (hb1.trans (hb2.mono hb1.size))
              go_wp2_with fail
              refine (check_any t _ ht).mono ?_
              rintro e w3 ⟨rfl, hb3⟩
              have HB3 := Lib.hid (HB2.out.trans (hb3.mono HB2.out.size))
              go_wp2_with fail
              refine (levels_any f _ hs).mono ?_
              rintro e w4 ⟨v, rfl, hown, hb4⟩
              have HB4 := Lib.hid (HB3.out.trans (hb4.mono HB3.out.size))
              have HST := Lib.hid (StrsAt.of_owns hown)
              obtain ⟨b, off, cap, rfl, q1, q2, q3, q4⟩ := HST.out.open hlf.1
              have hf0 : w4.cell? ⟨b, off, none⟩ = some (.string x) := q4 0 x HX.out
              clear q4 hown
              go_wp2_with fail
              refine (levels_any t _ ht).mono ?_
              rintro e w5 ⟨v5, rfl, hown5, hb5⟩
              have HB5 := Lib.hid (HB4.out.trans (hb5.mono HB4.out.size))
              go_wp2_with fail
              refine (goes_any (levels f) (levels t) _ _ _ (HST.out.below hb5) (StrsAt.of_owns hown5)).mono ?_
              rintro e w6 ⟨rfl, n6, rfl⟩
              go_wp2_with fail
              go_ret
              exact ⟨ret_bool HM.out.symm, below_drewN HB5.out _⟩
        · have f36 : ((t[0].toNat : Int) == 36) = false := by rw [beq_eq_false_iff_ne]; omega
          have HM := Lib.hid (show matchT f t = goesL (levels f) (levels t) from by rw [hm, if_neg (fun h => c36 (Eq.mp hhe h.1))])
          clear hm hsf cf ct hhe hx hhx c36
          go_enter Try.func10, Try.ntmps10
          go_wp2_with fail
          refine (shared_any f _ hs).mono ?_
          rintro e w1 ⟨rfl, hb1⟩
          rw [HS.out]
          go_wp2_with fail
          refine (checkFilter_any f _ hs).mono ?_
          rintro e w2 ⟨rfl, hb2⟩
          have HB2 := Lib.hid (hb1.trans (hb2.mono hb1.size))
          go_wp2_with fail
          refine (check_any t _ ht).mono ?_
          rintro e w3 ⟨rfl, hb3⟩
          have HB3 := Lib.hid (HB2.out.trans (hb3.mono HB2.out.size))
          go_wp2_with fail
          refine (levels_any f _ hs).mono ?_
          rintro e w4 ⟨v, rfl, hown, hb4⟩
          have HB4 := Lib.hid (HB3.out.trans (hb4.mono HB3.out.size))
          have HST := Lib.hid (StrsAt.of_owns hown)
          obtain ⟨b, off, cap, rfl, q1, q2, q3, q4⟩ := HST.out.open hlf.1
          have hf0 : w4.cell? ⟨b, off, none⟩ = some (.string x) := q4 0 x HX.out
          clear q4 hown
          go_wp2_with fail
          refine (levels_any t _ ht).mono ?_
          rintro e w5 ⟨v5, rfl, hown5, hb5⟩
          have HB5 := Lib.hid (HB4.out.trans (hb5.mono HB4.out.size))
          go_wp2_with fail
          refine (goes_any (levels f) (levels t) _ _ _ (HST.out.below hb5) (StrsAt.of_owns hown5)).mono ?_
          rintro e w6 ⟨rfl, n6, rfl⟩
          go_wp2_with fail
          go_ret
          exact ⟨ret_bool HM.out.symm, below_drewN HB5.out _⟩
      · have ft : (chk t != 0) = true := by rw [bne_iff_ne]; exact ct
        have HM := Lib.hid (show matchT f t = false from by rw [hm, if_pos (.inr (.inr ct))])
        clear hm hsf cf ct
        go_enter Try.func10, Try.ntmps10
        go_wp2_with fail
        refine (shared_any f _ hs).mono ?_
        rintro e w1 ⟨rfl, hb1⟩
        rw [HS.out]
        go_wp2_with fail
        refine (checkFilter_any f _ hs).mono ?_
        rintro e w2 ⟨rfl, hb2⟩
        have HB2 := Lib.hid (hb1.trans (hb2.mono hb1.size))
        go_wp2_with fail
        refine (check_any t _ ht).mono ?_
        rintro e w3 ⟨rfl, hb3⟩
        have HB3 := Lib.hid (HB2.out.trans (hb3.mono HB2.out.size))
        go_wp2_with fail
        go_ret
        exact ⟨ret_bool HM.out.symm, HB3.out⟩
    · have ff : (chkF f != 0) = true := by rw [bne_iff_ne]; exact cf
      have HM := Lib.hid (show matchT f t = false from by rw [hm, if_pos (.inr (.inl cf))])
      clear hm hsf cf
      go_enter Try.func10, Try.ntmps10
      go_wp2_with fail
      refine (shared_any f _ hs).mono ?_
      rintro e w1 ⟨rfl, hb1⟩
      rw [HS.out]
      go_wp2_with fail
      refine (checkFilter_any f _ hs).mono ?_
      rintro e w2 ⟨rfl, hb2⟩
      have HB2 := Lib.hid (hb1.trans (hb2.mono hb1.size))
      go_wp2_with fail
      go_ret
      exact ⟨ret_bool HM.out.symm, HB2.out⟩

end Go.Proofs.Ytmjpnpnmhacknaa
