/- Proved here: the contract of the reference's goes. -/
import Derived.Test.YtmjpnpnmhacknaaRfC
import Derived.Deep.AppendSrc
namespace Go.Proofs.Ytmjpnpnmhacknaa
open Go.RowKit Go.Proofs.Tp

theorem goesL_hash {f : ByteArray} {F T : List ByteArray} (h : f.data.toList = [35]) : goesL (f :: F) T = true := by unfold goesL; rw [if_pos h]
theorem goesL_short {f : ByteArray} {F : List ByteArray} (h : ¬ f.data.toList = [35]) : goesL (f :: F) [] = false := by unfold goesL; rw [if_neg h]
theorem goesL_on {f x : ByteArray} {F T : List ByteArray} (h : ¬ f.data.toList = [35]) (h2 : f.data.toList = [43] ∨ f = x) : goesL (f :: F) (x :: T) = goesL F T := by rw [goesL]; rw [if_neg h, if_pos h2]
theorem goesL_off {f x : ByteArray} {F T : List ByteArray} (h : ¬ f.data.toList = [35]) (h2 : ¬ f.data.toList = [43]) (h3 : ¬ f = x) : goesL (f :: F) (x :: T) = false := by
  rw [goesL]; rw [if_neg h, if_neg (by rintro (e | e); exact h2 e; exact h3 e)]

set_option maxHeartbeats 2000000 in
set_option maxRecDepth 1000000 in
theorem rfGoes_walk (F T : List ByteArray) (b1 o1 c1 b2 o2 c2 n m : Nat) (w : World) (hn : F.length = n) (hm : T.length = m) (hnc : n ≤ c1) (_hmc : m ≤ c2) (hc1 : c1 ≤ 9223372036854775807) (_hc2 : c2 ≤ 9223372036854775807)
    (hA : ∀ i x, F[i]? = some x → w.cell? ⟨b1, o1 + i, none⟩ = some (.string x)) (hB : ∀ i x, T[i]? = some x → w.cell? ⟨b2, o2 + i, none⟩ = some (.string x)) :
    Calls Try.prog 26 #[.slice (some ⟨b1, o1, none⟩) n c1, .slice (some ⟨b2, o2, none⟩) m c2] w fun e w' => e = .returned (.bool (goesL F T)) ∧ ∃ d, w' = w.drewN d := by
  have HA := Lib.hid hA
  have HB := Lib.hid hB
  have HN := Lib.hid hn
  have HM := Lib.hid hm
  clear hA hB hn hm
  go_enter Try.func26, Try.ntmps26
  go_wp2_with fail
  go_loopg [5] n (fun g i wr => ∃ k, k + g = n ∧ i = .int .i64 (k : Nat) ∧ k ≤ m ∧ Aside (goesL (F.drop k) (T.drop k) = goesL F T) ∧ ∃ d, wr = w.drewN d)
  case atStart => exact ⟨0, by omega, rfl, Nat.zero_le _, rfl, 0, rfl⟩
  case round =>
    obtain ⟨k, hkg, rfl, hkm, HI, d, rfl⟩ := hrel
    have HKG := Lib.hid hkg
    by_cases hkn : k < n
    · have hknI : (k : Int) < (n : Int) := by omega
      obtain ⟨f, hf⟩ : ∃ x, F[k]? = some x := ⟨F[k]'(by rw [HN.out]; exact hkn), List.getElem?_eq_getElem _⟩
      have hcx : w.cell? ⟨b1, o1 + k, none⟩ = some (.string f) := HA.out k f hf
      have HX := Lib.hid (drop_at hf)
      clear hf hkg
      by_cases h35 : f.data.toList = [35]
      · have f35 : (f.toList == [35]) = true := by rw [strEq, decide_eq_true h35]
        have HE := Lib.hid (show goesL F T = true from by rw [← HI.out, HX.out]; exact goesL_hash h35)
        clear h35
        go_wp2_with fail
        go_ret
        exact ⟨ret_bool HE.out.symm, _, rfl⟩
      · have f35 : (f.toList == [35]) = false := by rw [strEq, decide_eq_false h35]
        by_cases hkm2 : k < m
        · have hkmI : ¬ ((m : Int) ≤ (k : Int)) := by omega
          have hkmB : decide (m ≤ k) = false := by rw [decide_eq_false_iff_not]; omega
          obtain ⟨x, hx⟩ : ∃ x, T[k]? = some x := ⟨T[k]'(by rw [HM.out]; exact hkm2), List.getElem?_eq_getElem _⟩
          have hcy : w.cell? ⟨b2, o2 + k, none⟩ = some (.string x) := HB.out k x hx
          have HY := Lib.hid (drop_at hx)
          clear hx
          by_cases h43 : f.data.toList = [43]
          · have f43 : (f.toList == [43]) = true := by rw [strEq, decide_eq_true h43]
            have f43n : (f.toList != [43]) = false := by unfold bne; rw [f43]; rfl
            have HE := Lib.hid (show goesL (F.drop (k + 1)) (T.drop (k + 1)) = goesL F T from by rw [← HI.out, HX.out, HY.out, goesL_on h35 (.inl h43)])
            clear h35 h43
            go_wp2_with fail
            go_quiet (fail)
            go_wp2_with fail
            go_roundg (n - (k + 1))
            case measure => have := HKG.out; omega
            case rel => exact ⟨k + 1, by omega, by go_num, by omega, HE.out, _, rfl⟩
          · have f43 : (f.toList == [43]) = false := by rw [strEq, decide_eq_false h43]
            have f43n : (f.toList != [43]) = true := by unfold bne; rw [f43]; rfl
            by_cases hfx : f = x
            · have e1 : (f.toList == x.toList) = true := by rw [hfx]; simp
              have e2 : (f.toList != x.toList) = false := by rw [hfx]; simp
              have HE := Lib.hid (show goesL (F.drop (k + 1)) (T.drop (k + 1)) = goesL F T from by rw [← HI.out, HX.out, HY.out, goesL_on h35 (.inr hfx)])
              clear h35 h43 hfx
              go_wp2_with fail
              go_quiet (fail)
              go_wp2_with fail
              go_roundg (n - (k + 1))
              case measure => have := HKG.out; omega
              case rel => exact ⟨k + 1, by omega, by go_num, by omega, HE.out, _, rfl⟩
            · have hfx0 : ¬ f.data.toList = x.data.toList := fun e => hfx (ba_ext e)
              have e1 : (f.toList == x.toList) = false := by rw [beq_eq_false_iff_ne, Lib.toList_data, Lib.toList_data]; exact hfx0
              have e2 : (f.toList != x.toList) = true := by unfold bne; rw [e1]; rfl
              have HE := Lib.hid (show goesL F T = false from by rw [← HI.out, HX.out, HY.out, goesL_off h35 h43 hfx])
              clear h35 h43 hfx hfx0
              go_wp2_with fail
              go_quiet (fail)
              go_wp2_with fail
              go_ret
              exact ⟨ret_bool HE.out.symm, _, World.drewN_drewN _ _ _⟩
        · have hkmI : (m : Int) ≤ (k : Int) := by omega
          have hkmB : decide (m ≤ k) = true := by rw [decide_eq_true_eq]; omega
          have HE := Lib.hid (show goesL F T = false from by rw [← HI.out, HX.out, show T.drop k = [] from List.drop_eq_nil_of_le (by rw [HM.out]; omega)]; exact goesL_short h35)
          clear h35
          go_wp2_with fail
          go_quiet (fail)
          go_wp2_with fail
          go_ret
          exact ⟨ret_bool HE.out.symm, _, World.drewN_drewN _ _ _⟩
    · have hknI : ¬ ((k : Int) < (n : Int)) := by omega
      have hFk : F.drop k = [] := List.drop_eq_nil_of_le (by rw [HN.out]; omega)
      have hkn2 : k = n := by omega
      have HE := Lib.hid (show goesL F T = ((n : Int) == (m : Int)) from by
        rw [← HI.out, hFk]
        by_cases hnm : n = m
        · rw [show T.drop k = [] from List.drop_eq_nil_of_le (by rw [HM.out]; omega), hnm]; simp [goesL]
        · have : ((n : Int) == (m : Int)) = false := by rw [beq_eq_false_iff_ne]; omega
          rw [this]
          obtain ⟨y, hy⟩ : ∃ y, T[k]? = some y := ⟨T[k]'(by rw [HM.out]; omega), List.getElem?_eq_getElem _⟩
          rw [drop_at hy]; rfl)
      clear hFk hkg hkn2
      go_wp2_with fail
      go_ret
      exact ⟨ret_bool HE.out.symm, _, rfl⟩

end Go.Proofs.Ytmjpnpnmhacknaa
