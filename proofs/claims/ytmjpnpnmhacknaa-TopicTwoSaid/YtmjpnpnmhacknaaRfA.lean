/- Proved here: the contracts of the reference's sign and Levels. -/
import Derived.Test.YtmjpnpnmhacknaaTpMatch
namespace Go.Proofs.Ytmjpnpnmhacknaa
open Go.RowKit Go.Proofs.Tp

theorem byte_at (s : ByteArray) (i : Nat) (h : i < s.size) : s.data.toList[i]? = some s[i] := by
  have hl : i < s.data.toList.length := by simpa using h
  rw [List.getElem?_eq_getElem hl]; rfl

set_option maxHeartbeats 400000 in
set_option maxRecDepth 100000 in
theorem rfSign_any (s : ByteArray) (w : World) (hs : s.size ≤ 1000000000) :
    Calls Try.prog 34 #[.string s] w fun e w' => e = .returned (.bool (sign s)) ∧ w = w' := by
  go_enter Try.func34, Try.ntmps34
  go_wp2_with fail
  go_loopg [3] s.size (fun g i wr => ∃ k, k + g = s.size ∧ i = .int .i64 (k : Nat) ∧ Aside (signL (s.data.toList.drop k) = sign s) ∧ w = wr)
  case atStart => exact ⟨0, by omega, rfl, rfl, rfl⟩
  case round =>
    obtain ⟨k, hkg, rfl, HI, rfl⟩ := hrel
    have HKG := Lib.hid hkg
    cases gk with
    | zero =>
      have hkz : ¬ ((k : Int) < (s.size : Int)) := by omega
      have HF := Lib.hid (show sign s = false from by rw [← HI.out, drop_end s k (by omega)]; rfl)
      clear hkg
      go_wp2_with fail
      go_ret
      exact ⟨ret_bool HF.out.symm, rfl⟩
    | succ g =>
      have hkz : (k : Int) < (s.size : Int) := by omega
      have hkn : k < s.size := by omega
      clear hkg
      have hget : s.get! k = s[k] := by
        have := get_toList s k hkn
        rw [byte_at s k hkn] at this
        exact (Option.some.inj this).symm
      have hd := drop_get s k hkn
      rw [hget] at hd
      have HD := Lib.hid hd
      clear hd hget
      by_cases c43 : s[k].toNat = 43
      · have f43 : ((s[k].toNat : Int) == 43) = true := by rw [c43]; rfl
        have HF := Lib.hid (show sign s = true from by rw [← HI.out, HD.out, show s[k] = 43 from UInt8.toNat.inj c43]; rfl)
        clear c43
        go_wp2_with fail
        go_ret
        exact ⟨ret_bool HF.out.symm, rfl⟩
      · have f43 : ((s[k].toNat : Int) == 43) = false := by rw [beq_eq_false_iff_ne]; omega
        by_cases c35 : s[k].toNat = 35
        · have f35 : ((s[k].toNat : Int) == 35) = true := by rw [c35]; rfl
          have HF := Lib.hid (show sign s = true from by rw [← HI.out, HD.out, show s[k] = 35 from UInt8.toNat.inj c35]; rfl)
          clear c43 c35
          go_wp2_with fail
          go_ret
          exact ⟨ret_bool HF.out.symm, rfl⟩
        · have f35 : ((s[k].toNat : Int) == 35) = false := by rw [beq_eq_false_iff_ne]; omega
          have hn : signL (s.data.toList.drop (k + 1)) = sign s := by
            rw [← HI.out, HD.out]
            have n1 : s[k] ≠ 43 := fun e => c43 (by rw [e]; rfl)
            have n2 : s[k] ≠ 35 := fun e => c35 (by rw [e]; rfl)
            simp [signL, n1, n2]
          have HF := Lib.hid hn
          clear c43 c35 hn
          go_wp2_with fail
          go_roundg g
          case measure => omega
          case rel => exact ⟨k + 1, by have := HKG.out; omega, by go_num, HF.out, rfl⟩

set_option maxHeartbeats 400000 in
set_option maxRecDepth 100000 in
theorem rfLevels_any (s : ByteArray) (w : World) (hs : s.size ≤ 1000000000) :
    Calls Try.prog 22 #[.string s] w fun e w' => ∃ v, e = .returned v ∧ w'.ownsRow w.heap.size 9 1 v (levels s).length ((levels s).map Value.string) ∧ Below w.heap.size w w' := by
  obtain ⟨i0, hi, hz0, hz1, hz2⟩ := info_parts Try.info9
  go_enter Try.func22, Try.ntmps22
  go_wp2_with fail
  go_loopg [3, 4, 5] s.size (fun g v f i wr => ∃ k, k + g = s.size ∧ i = .int .i64 (k : Nat) ∧ f = .int .i64 ((lvTo s k).2 : Nat) ∧
      wr.ownsRow w.heap.size 9 1 v (lvTo s k).1.length ((lvTo s k).1.map Value.string) ∧ Below w.heap.size w wr)
  case atStart => exact ⟨0, by omega, rfl, rfl, World.ownsRow_nil _ _ _ _, Below.refl _ _⟩
  case round =>
    obtain ⟨k, hkg, rfl, rfl, hown, hbel⟩ := hrel
    have HKG := Lib.hid hkg
    have hle := lvTo_le s k
    have hsz := hbel.size
    cases gk with
    | zero =>
      obtain rfl : k = s.size := by omega
      clear hkg
      go_wp2_with (at_builtin; refine wpList_append_own _ rfl _ _ 26 rfl w.heap.size 9 i0 (.string ByteArray.empty) 1 16 Try.underlying26 hi hz0 hz1 hz2 rfl (by decide) _ _ _ rfl (hown.alloc _) ⟨wr.heap.size, 0, none⟩ 1 1 [.string (s.extract (lvTo s s.size).2 s.size)] rfl rfl ?d1 ?d2 ?d3 ?d4 ?d5 ?_)
      case d1 => exact cell_one_new _ _ _
      case d2 => simp [Value.oneCell']
      case d3 => unfold maxLen; omega
      case d4 => omega
      case d5 => simp; omega
      intro v' w1 hown1 hgrow _
      have h1 := hown.alloc (.cells #[.string (s.extract (lvTo s s.size).2 s.size)] 9)
      go_wp2_with fail
      go_ret
      refine ⟨_, rfl, ?_, (hbel.alloc (by omega) _).grown hgrow (by simp; omega) (fun k e => by have := (h1.lt _ e).1; omega)⟩
      simpa [levels] using hown1
    | succ g =>
      have hkz : (k : Int) < (s.size : Int) := by omega
      have hkn : k < s.size := by omega
      clear hkg
      have hb47 := byte_at s k hkn
      by_cases c47 : s[k].toNat = 47
      · have f47 : ((s[k].toNat : Int) == 47) = true := by rw [c47]; rfl
        have hto : lvTo s (k + 1) = ((lvTo s k).1 ++ [s.extract (lvTo s k).2 k], k + 1) := by
          rw [lvTo_succ]; unfold lvStep; rw [if_pos (by rw [hb47, show s[k] = 47 from UInt8.toNat.inj c47])]
        have HTO := Lib.hid hto
        clear hto hb47 c47
        go_wp2_with (at_builtin; refine wpList_append_own _ rfl _ _ 26 rfl w.heap.size 9 i0 (.string ByteArray.empty) 1 16 Try.underlying26 hi hz0 hz1 hz2 rfl (by decide) _ _ _ rfl (hown.alloc _) ⟨wr.heap.size, 0, none⟩ 1 1 [.string (s.extract (lvTo s k).2 k)] rfl rfl ?c1 ?c2 ?c3 ?c4 ?c5 ?_)
        case c1 => exact cell_one_new _ _ _
        case c2 => simp [Value.oneCell']
        case c3 => unfold maxLen; omega
        case c4 => omega
        case c5 => simp; omega
        intro v' w1 hown1 hgrow _
        go_wp2_with fail
        go_roundg g
        case measure => omega
        case rel =>
          have h1 := hown.alloc (.cells #[.string (s.extract (lvTo s k).2 k)] 9)
          refine ⟨k + 1, by have := HKG.out; omega, by go_num, ?_, ?_, ?_⟩
          · rw [HTO.out]; simp
          · rw [HTO.out]; simpa using hown1
          · exact (hbel.alloc (by omega) _).grown hgrow (by simp; omega) (fun k e => by have := (h1.lt _ e).1; omega)
      · have f47 : ((s[k].toNat : Int) == 47) = false := by rw [beq_eq_false_iff_ne]; omega
        have hto : lvTo s (k + 1) = lvTo s k := lvTo_high s k (by rw [hb47]; intro e; exact c47 (by rw [Option.some.inj e]; rfl))
        have HTO := Lib.hid hto
        clear hto hb47 c47
        go_wp2_with fail
        go_roundg g
        case measure => omega
        case rel => exact ⟨k + 1, by have := HKG.out; omega, by go_num, by rw [HTO.out], by rw [HTO.out]; exact hown, hbel⟩

end Go.Proofs.Ytmjpnpnmhacknaa
