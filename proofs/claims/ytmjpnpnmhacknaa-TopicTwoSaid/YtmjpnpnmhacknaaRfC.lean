/- Proved here: the contract of the reference's Compare. -/
import Derived.Test.YtmjpnpnmhacknaaRfB
namespace Go.Proofs.Ytmjpnpnmhacknaa
open Go.RowKit Go.Proofs.Tp

theorem less_iff (x y : ByteArray) : Op.bytesLess x.toList y.toList = decide (x.data.toList < y.data.toList) := by
  rw [bytesLess_eq, Lib.toList_data, Lib.toList_data]

theorem cmpB_lt {x y : ByteArray} (h : x.data.toList < y.data.toList) : cmpB x y = -1 := by unfold cmpB; rw [if_pos h]
theorem cmpB_gt {x y : ByteArray} (h1 : ¬ x.data.toList < y.data.toList) (h : y.data.toList < x.data.toList) : cmpB x y = 1 := by unfold cmpB; rw [if_neg h1, if_pos h]
theorem cmpB_eq {x y : ByteArray} (h1 : ¬ x.data.toList < y.data.toList) (h : ¬ y.data.toList < x.data.toList) : cmpB x y = 0 := by unfold cmpB; rw [if_neg h1, if_neg h]

set_option maxHeartbeats 2000000 in
set_option maxRecDepth 1000000 in
theorem rfCompare_any (s t : ByteArray) (w : World) (hs : s.size ≤ 1000000000) (ht : t.size ≤ 1000000000) :
    Calls Try.prog 9 #[.string s, .string t] w fun e w' => e = .returned (.int .i64 (cmpT s t)) ∧ Below w.heap.size w w' := by
  have h1 := levels_len s hs
  have h2 := levels_len t ht
  have HF := Lib.hid (show cmpT s t = cmpL (levels s) (levels t) from rfl)
  go_enter Try.func9, Try.ntmps9
  go_wp2_with fail
  refine (rfLevels_any s _ hs).mono ?_
  rintro e w1 ⟨v, rfl, hown, hb⟩
  obtain ⟨b1, o1, c1, rfl, q1, q2, q3, q4⟩ := (StrsAt.of_owns hown).open h1.1
  clear hown
  have Q4 := Lib.hid q4
  clear q4
  go_wp2_with fail
  refine (rfLevels_any t _ ht).mono ?_
  rintro e w2 ⟨v2, rfl, hown2, hb2⟩
  obtain ⟨b2, o2, c2, rfl, r1, r2, r3, r4⟩ := (StrsAt.of_owns hown2).open h2.1
  clear hown2
  have HA := Lib.hid (fun i x hx => (hb2.cell (p := ⟨b1, o1 + i, none⟩) q3).trans (Q4.out i x hx))
  have HB := Lib.hid r4
  have HBEL := Lib.hid (hb.trans (hb2.mono hb.size))
  clear r4 hb hb2 Q4
  generalize levels s = A at *
  generalize levels t = B at *
  obtain ⟨n, hn⟩ : ∃ n, A.length = n := ⟨_, rfl⟩
  obtain ⟨m, hm⟩ : ∃ m, B.length = m := ⟨_, rfl⟩
  have HN := Lib.hid hn
  have HM := Lib.hid hm
  rw [hn] at h1 q1 ⊢
  rw [hm] at h2 r1 ⊢
  clear hn hm
  obtain ⟨hn0, hn1⟩ := h1
  obtain ⟨hm0, hm1⟩ := h2
  go_wp2_with fail
  go_loopg [7] n (fun g i wr => ∃ k, k + g = n ∧ i = .int .i64 (k : Nat) ∧ k ≤ m ∧ Aside (cmpL (A.drop k) (B.drop k) = cmpL A B) ∧ ∃ d, wr = w2.drewN d)
  case atStart => exact ⟨0, by omega, rfl, Nat.zero_le _, rfl, 0, rfl⟩
  case round =>
    obtain ⟨k, hkg, rfl, hkm, HI, d, rfl⟩ := hrel
    have HKG := Lib.hid hkg
    by_cases hkn : k < n
    · have hknI : (k : Int) < (n : Int) := by omega
      obtain ⟨x, hx⟩ : ∃ x, A[k]? = some x := ⟨A[k]'(by rw [HN.out]; exact hkn), List.getElem?_eq_getElem _⟩
      have hcx : w2.cell? ⟨b1, o1 + k, none⟩ = some (.string x) := HA.out k x hx
      have HX := Lib.hid (drop_at hx)
      clear hx
      by_cases hkm2 : k < m
      · have hkmI : (k : Int) < (m : Int) := by omega
        obtain ⟨y, hy⟩ : ∃ y, B[k]? = some y := ⟨B[k]'(by rw [HM.out]; exact hkm2), List.getElem?_eq_getElem _⟩
        have hcy : w2.cell? ⟨b2, o2 + k, none⟩ = some (.string y) := HB.out k y hy
        have HY := Lib.hid (drop_at hy)
        clear hy hkg
        have l1 := less_iff x y
        have l2 := less_iff y x
        by_cases c1 : x.data.toList < y.data.toList
        · rw [decide_eq_true c1] at l1
          have HE := Lib.hid (show cmpL A B = -1 from by rw [← HI.out, HX.out, HY.out]; simp [cmpL, cmpB_lt c1])
          clear l2 c1
          go_wp2_with fail
          go_quiet (fail)
          go_wp2_with fail
          go_ret
          exact ⟨ret_int (HF.out.trans HE.out).symm, below_drewN (below_drewN HBEL.out _) _⟩
        · rw [decide_eq_false c1] at l1
          by_cases c2 : y.data.toList < x.data.toList
          · rw [decide_eq_true c2] at l2
            have HE := Lib.hid (show cmpL A B = 1 from by rw [← HI.out, HX.out, HY.out]; simp [cmpL, cmpB_gt c1 c2])
            clear c1 c2
            go_wp2_with fail
            go_quiet (fail)
            go_wp2_with fail
            go_quiet (fail)
            go_wp2_with fail
            go_ret
            exact ⟨ret_int (HF.out.trans HE.out).symm, below_drewN (below_drewN (below_drewN HBEL.out _) _) _⟩
          · rw [decide_eq_false c2] at l2
            have HE := Lib.hid (show cmpL (A.drop (k + 1)) (B.drop (k + 1)) = cmpL A B from by rw [← HI.out, HX.out, HY.out]; simp [cmpL, cmpB_eq c1 c2])
            clear c1 c2
            go_wp2_with fail
            go_quiet (fail)
            go_wp2_with fail
            go_quiet (fail)
            go_wp2_with fail
            go_roundg (n - (k + 1))
            case measure => have := HKG.out; omega
            case rel => exact ⟨k + 1, by omega, by go_num, by omega, HE.out, _, rfl⟩
      · have hkmI : ¬ ((k : Int) < (m : Int)) := by omega
        have hnmI : ¬ ((n : Int) < (m : Int)) := by omega
        have hmnI : (m : Int) < (n : Int) := by omega
        have HE := Lib.hid (show cmpL A B = 1 from by rw [← HI.out, HX.out, show B.drop k = [] from List.drop_eq_nil_of_le (by rw [HM.out]; omega)]; rfl)
        clear hkg
        go_wp2_with fail
        go_ret
        exact ⟨ret_int (HF.out.trans HE.out).symm, below_drewN HBEL.out _⟩
    · have hknI : ¬ ((k : Int) < (n : Int)) := by omega
      have hAk : A.drop k = [] := List.drop_eq_nil_of_le (by rw [HN.out]; omega)
      clear hkg
      by_cases hnm : n < m
      · have hnmI : (n : Int) < (m : Int) := by omega
        have HE := Lib.hid (show cmpL A B = -1 from by
          rw [← HI.out, hAk]
          obtain ⟨y, hy⟩ : ∃ y, B[k]? = some y := ⟨B[k]'(by rw [HM.out]; have := HKG.out; omega), List.getElem?_eq_getElem _⟩
          rw [drop_at hy]; rfl)
        clear hAk hnm
        go_wp2_with fail
        go_ret
        exact ⟨ret_int (HF.out.trans HE.out).symm, below_drewN HBEL.out _⟩
      · have hnmI : ¬ ((n : Int) < (m : Int)) := by omega
        have hmnI : ¬ ((m : Int) < (n : Int)) := by have := HKG.out; omega
        have HE := Lib.hid (show cmpL A B = 0 from by
          rw [← HI.out, hAk, show B.drop k = [] from List.drop_eq_nil_of_le (by rw [HM.out]; have := HKG.out; omega)]; rfl)
        clear hAk hnm
        go_wp2_with fail
        go_ret
        exact ⟨ret_int (HF.out.trans HE.out).symm, below_drewN HBEL.out _⟩

end Go.Proofs.Ytmjpnpnmhacknaa
