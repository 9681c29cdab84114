/- Proved here: the contracts of strings.IndexRune, IndexAny and ContainsAny at the signs + and #. -/
import Derived.Test.YtmjpnpnmhacknaaTpWire
import Derived.BigQuiet
import Derived.Deep.QuietTactic
import Derived.RegionTactic
namespace Go.Proofs.Ytmjpnpnmhacknaa
open Go.RowKit Go.Proofs.Tp

theorem ret_bool {a b : Bool} (h : a = b) : Ending.returned (.bool a) = .returned (.bool b) := by rw [h]

theorem dec_sign0 : Utf8.decode ⟨#[43, 35]⟩ 0 = (43, 1) := by decide +kernel
theorem dec_sign1 : Utf8.decode ⟨#[43, 35]⟩ 1 = (35, 1) := by decide +kernel

set_option maxHeartbeats 400000 in
set_option maxRecDepth 1000000 in
theorem runeIn_fffd (w : World) :
    Calls Try.prog 44 #[.string ⟨#[43, 35]⟩, .int .i32 65533] w fun e w' => e = .returned (.int .i64 (-1)) ∧ Below w.heap.size w w' := by
  go_enter Try.func44, Try.ntmps44
  go_wp2_with fail
  go_loopw [] (fun wr => ∃ pos, pos ≤ 2 ∧ wr.heap[w.heap.size]? = some (.stringIter ⟨#[43, 35]⟩ pos) ∧ Below w.heap.size w wr) (fun wr => 2 - wr.iterPos w.heap.size)
  case atStart => exact ⟨0, by omega, by simp [World.iter_heap], (Below.refl _ _).alloc (Nat.le_refl _) _⟩
  case round =>
    obtain ⟨pos, hpos, hit, hbel⟩ := hrel
    have HIP := Lib.hid (iterPos_of hit)
    have hbel' := fun n => Lib.below_iterAt hbel (Nat.le_refl _) ⟨#[43, 35]⟩ n
    have hit' := fun n => Lib.iterAt_heap wr w.heap.size ⟨#[43, 35]⟩ pos n hit
    have h012 : pos = 0 ∨ pos = 1 ∨ pos = 2 := by omega
    rcases h012 with rfl | rfl | rfl
    · have hnx : ∀ ty, (Instr.next (.pointer (some ⟨w.heap.size, 0, none⟩)) true ty).run Try.prog wr = .ok (.tuple #[.bool true, .int .i64 0, .int .i32 43]) (wr.iterAt w.heap.size ⟨#[43, 35]⟩ 1) := fun ty => by
        rw [Lib.run_next_any_at wr _ ⟨#[43, 35]⟩ 0 ty hit (by decide), dec_sign0]; rfl
      have hb1 := hbel' 1
      have HT := Lib.hid (hit' 1)
      clear hit hit' hbel'
      generalize wr.iterAt w.heap.size ⟨#[43, 35]⟩ 1 = wi at *
      go_wp2
      go_roundw
      case rel => exact ⟨1, by omega, HT.out, hb1⟩
      case measure => rw [iterPos_of HT.out, HIP.out]; omega
    · have hnx : ∀ ty, (Instr.next (.pointer (some ⟨w.heap.size, 0, none⟩)) true ty).run Try.prog wr = .ok (.tuple #[.bool true, .int .i64 1, .int .i32 35]) (wr.iterAt w.heap.size ⟨#[43, 35]⟩ 2) := fun ty => by
        rw [Lib.run_next_any_at wr _ ⟨#[43, 35]⟩ 1 ty hit (by decide), dec_sign1]; rfl
      have hb1 := hbel' 2
      have HT := Lib.hid (hit' 2)
      clear hit hit' hbel'
      generalize wr.iterAt w.heap.size ⟨#[43, 35]⟩ 2 = wi at *
      go_wp2
      go_roundw
      case rel => exact ⟨2, by omega, HT.out, hb1⟩
      case measure => rw [iterPos_of HT.out, HIP.out]; omega
    · have hnx : ∀ ty, (Instr.next (.pointer (some ⟨w.heap.size, 0, none⟩)) true ty).run Try.prog wr = .ok (.tuple #[.bool false]) wr := fun ty => Lib.run_next_end_at wr _ ⟨#[43, 35]⟩ 2 ty hit (by decide)
      clear hit hit' hbel'
      go_wp2
      go_ret
      exact ⟨rfl, hbel⟩

theorem idxByte_nil (s : ByteArray) (b : Int) (h : s.data.toList = []) (w : World) :
    Calls Try.prog 51 #[.string s, .int .u8 b] w fun e w' => e = .returned (.int .i64 (-1)) ∧ w' = w :=
  (Try.strings_IndexByte s b w).mono fun e w' ⟨he, hw⟩ => ⟨by rw [he, h]; rfl, hw⟩

theorem quiet_add_same {P : Program} {f : FuncId} {args : Array Value} {w : World} {a n : Nat} {v : Value}
    (h : Calls P f args (w.drewN (a + n)) fun e w' => e = .returned v ∧ w' = w.drewN (a + n)) :
    Calls P f args (w.drewN (a + n)) fun e w'' => e = .returned v ∧ ∃ m, w'' = w.drewN (a + m) :=
  h.mono fun _ _ ⟨he, hm⟩ => ⟨he, n, hm⟩

theorem encode_two (c : Nat) (h1 : 128 ≤ c) (h2 : c < 2048) : ∃ x y : UInt8, Utf8.encode (c : Int) = ⟨#[x, y]⟩ ∧ 128 ≤ y.toNat := by
  refine ⟨UInt8.ofNat (0xC0 + c / 64), UInt8.ofNat (0x80 + c % 64), ?_, ?_⟩
  · have hv : Utf8.valid (c : Int) = true := (valid_nat c).2 (by omega)
    simp only [Utf8.encode, hv, if_true, Int.toNat_natCast]
    rw [if_neg (by omega), if_pos (by omega)]
  · rw [UInt8.toNat_ofNat']; omega

theorem encode_more (c : Nat) (h2 : 2048 ≤ c) : 3 ≤ (Utf8.encode (c : Int)).size ∧ (Utf8.encode (c : Int)).size ≤ 4 := by
  have key : ∀ d : Nat, 2048 ≤ d → 3 ≤ (if d < 0x80 then (⟨#[UInt8.ofNat d]⟩ : ByteArray)
      else if d < 0x800 then ⟨#[UInt8.ofNat (0xC0 + d / 64), UInt8.ofNat (0x80 + d % 64)]⟩
      else if d < 0x10000 then ⟨#[UInt8.ofNat (0xE0 + d / 4096), UInt8.ofNat (0x80 + d / 64 % 64), UInt8.ofNat (0x80 + d % 64)]⟩
      else ⟨#[UInt8.ofNat (0xF0 + d / 262144), UInt8.ofNat (0x80 + d / 4096 % 64), UInt8.ofNat (0x80 + d / 64 % 64), UInt8.ofNat (0x80 + d % 64)]⟩).size ∧ (if d < 0x80 then (⟨#[UInt8.ofNat d]⟩ : ByteArray)
      else if d < 0x800 then ⟨#[UInt8.ofNat (0xC0 + d / 64), UInt8.ofNat (0x80 + d % 64)]⟩
      else if d < 0x10000 then ⟨#[UInt8.ofNat (0xE0 + d / 4096), UInt8.ofNat (0x80 + d / 64 % 64), UInt8.ofNat (0x80 + d % 64)]⟩
      else ⟨#[UInt8.ofNat (0xF0 + d / 262144), UInt8.ofNat (0x80 + d / 4096 % 64), UInt8.ofNat (0x80 + d / 64 % 64), UInt8.ofNat (0x80 + d % 64)]⟩).size ≤ 4 := by
    intro d hd
    rw [if_neg (by omega), if_neg (by omega)]
    split
    · exact ⟨Nat.le_refl 3, Nat.le_succ 3⟩
    · exact ⟨Nat.le_succ 3, Nat.le_refl 4⟩
  cases hv : Utf8.valid (c : Int)
  · have := key 65533 (by omega)
    unfold Utf8.encode
    simp only [hv, Bool.false_eq_true, if_false, Utf8.runeError]
    exact this
  · have := key c h2
    unfold Utf8.encode
    simp only [hv, if_true, Int.toNat_natCast]
    exact this

set_option maxHeartbeats 400000 in
set_option maxRecDepth 1000000 in
theorem runeIn_else (c : Nat) (w : World) (hc : 128 ≤ c) (hc2 : c ≤ 2147483647) (hne : ((c : Int) == 65533) = false) :
    Calls Try.prog 44 #[.string ⟨#[43, 35]⟩, .int .i32 (c : Nat)] w fun e w' => e = .returned (.int .i64 (-1)) ∧ Below w.heap.size w w' := by
  by_cases h2 : c < 2048
  · have HXY := Lib.hid (encode_two c hc h2)
    clear h2
    go_enter Try.func44, Try.ntmps44
    go_wp2_with fail
    refine (Try.utf8_ValidRune _ _).mono ?_
    rintro e w' ⟨rfl, rfl⟩
    cases hv : Lib.validRune (c : Int)
    · go_wp2_with fail
      go_ret
      exact ⟨rfl, Below.refl _ _⟩
    · go_wp2_with fail
      go_step3
      obtain ⟨x, y, hxy, hy⟩ := HXY.out
      have hsz : (⟨#[x, y]⟩ : ByteArray).size = 2 := rfl
      have hw1 : wrap64 1 = 1 := by unfold wrap64; omega
      have HY := Lib.hid hy
      clear hy
      go_wp2_with fail
      refine wp_loop_rounds 1 ?_
      rw [rounds_succ]
      go_wp2_with fail
      go_step3
      have hyn : ((((⟨#[43, 35]⟩ : ByteArray)[1]'(by decide)).toNat : Int) != (((⟨#[x, y]⟩ : ByteArray)[1]'(Nat.le_refl 2)).toNat : Int)) = true := by
        show ((35 : Int) != (y.toNat : Int)) = true
        have := HY.out; rw [bne_iff_ne]; omega
      go_wp2_with fail
      go_quiet (fail)
      go_wp2_with fail
      have hw2 : wrap64 2 = 2 := by unfold wrap64; omega
      go_quiet ((go_at_call 51; exact quiet_add_same (idxByte_nil _ _ (by rfl) _)))
      go_wp2_with fail
      repeat (first | rw [Exit.noGoto_ret] | simp only [Exit.inBlock] | simp only [Exit.then])
      go_ret
      exact ⟨rfl, below_drewN (Below.refl _ _) _⟩
  · have H3 := Lib.hid (encode_more c (by omega))
    clear h2
    go_enter Try.func44, Try.ntmps44
    go_wp2_with fail
    refine (Try.utf8_ValidRune _ _).mono ?_
    rintro e w' ⟨rfl, rfl⟩
    cases hv : Lib.validRune (c : Int)
    · go_wp2_with fail
      go_ret
      exact ⟨rfl, Below.refl _ _⟩
    · go_wp2_with fail
      go_step3
      have H5 := H3.out
      obtain ⟨n, hn⟩ : ∃ n, (Utf8.encode (c : Int)).size = n := ⟨_, rfl⟩
      have h5 : ¬ ((n : Int) - 1 < 2) := by omega
      have h6 : (n : Int) - 1 ≤ 100 := by omega
      have h7 : 0 ≤ (n : Int) - 1 := by omega
      have h8 : ¬ ((n : Int) < 3) := by omega
      have h9 : (3 : Int) ≤ n := by omega
      have h10 : decide ((n : Int) - 1 < 2) = false := by rw [decide_eq_false_iff_not]; omega
      clear H5
      go_wp2_with fail
      refine wp_loop_rounds 1 ?_
      rw [rounds_succ]
      go_wp2_with fail
      repeat (first | rw [Exit.noGoto_ret] | simp only [Exit.inBlock] | simp only [Exit.then])
      go_ret
      exact ⟨rfl, Below.refl _ _⟩

theorem runeIn_high (c : Nat) (w : World) (hc : 128 ≤ c) (hc2 : c ≤ 2147483647) :
    Calls Try.prog 44 #[.string ⟨#[43, 35]⟩, .int .i32 (c : Nat)] w fun e w' => e = .returned (.int .i64 (-1)) ∧ Below w.heap.size w w' := by
  by_cases h : c = 65533
  · subst h; exact runeIn_fffd w
  · exact runeIn_else c w hc hc2 (by rw [beq_eq_false_iff_ne]; omega)

theorem idx_sign_no (c : UInt8) (h1 : c ≠ 43) (h2 : c ≠ 35) : Lib.indexByte [43, 35] c = -1 := by
  simp [Lib.indexByte, Ne.symm h1, Ne.symm h2]

/-- IndexRune("+#", c): -1, but for the two signs. -/
theorem runeIn_no (c : Nat) (w : World) (hc2 : c ≤ 2147483647) (h1 : c ≠ 43) (h2 : c ≠ 35) :
    Calls Try.prog 44 #[.string ⟨#[43, 35]⟩, .int .i32 (c : Nat)] w fun e w' => e = .returned (.int .i64 (-1)) ∧ Below w.heap.size w w' := by
  by_cases h : c < 128
  · refine (Try.strings_IndexRune_ascii ⟨#[43, 35]⟩ (c : Int) w (by omega) (by omega)).mono fun e w' ⟨he, hw⟩ => ⟨?_, hw ▸ Below.refl _ _⟩
    have e0 : ((c : Int).toNat.toUInt8).toNat = c := by
      rw [Int.toNat_natCast]; show (UInt8.ofNat c).toNat = c; rw [UInt8.toNat_ofNat']; omega
    rw [he, show (⟨#[43, 35]⟩ : ByteArray).data.toList = [43, 35] from rfl, idx_sign_no]
    · intro e; rw [e] at e0; exact h1 e0.symm
    · intro e; rw [e] at e0; exact h2 e0.symm
  · exact runeIn_high c w (by omega) hc2

theorem runeIn_yes (c : Nat) (w : World) (h : c = 43 ∨ c = 35) :
    Calls Try.prog 44 #[.string ⟨#[43, 35]⟩, .int .i32 (c : Nat)] w fun e w' => (∃ k : Int, e = .returned (.int .i64 k) ∧ 0 ≤ k) ∧ Below w.heap.size w w' := by
  refine (Try.strings_IndexRune_ascii ⟨#[43, 35]⟩ (c : Int) w (by omega) (by omega)).mono fun e w' ⟨he, hw⟩ => ⟨⟨_, he, ?_⟩, hw ▸ Below.refl _ _⟩
  rcases h with rfl | rfl <;> decide +kernel

theorem zeroSet (w : World) : (zeroValue 57).run Try.prog w = .ok (.agg (Array.replicate 256 (.bool false))) w := by kernel_rfl

def SignAt (s : ByteArray) (w : World) (e : Ending) (w' : World) : Prop := ∃ k : Int, e = .returned (.int .i64 k) ∧ decide (0 ≤ k) = sign s ∧ Below w.heap.size w w'

set_option maxHeartbeats 400000 in
set_option maxRecDepth 100000 in
theorem indexAny_short (s : ByteArray) (w : World) (h8 : s.size ≤ 8) : Calls Try.prog 36 #[.string s, .string ⟨#[43, 35]⟩] w (SignAt s w) := by
  have h80 : decide (8 < (s.size : Int)) = false := by rw [decide_eq_false_iff_not]; omega
  go_enter Try.func36, Try.ntmps36
  go_wp2_with (go_at_call 45; refine (Try.strings_shouldUseASCIISet _ _).mono ?_; rintro e w' ⟨rfl, hw⟩; rw [hw]; clear hw)
  go_loopw [] (fun wr => ∃ pos, pos ≤ s.size ∧ wr.heap[w.heap.size]? = some (.stringIter s pos) ∧ signL (s.data.toList.drop pos) = sign s ∧ Below w.heap.size w wr) (fun wr => s.size - wr.iterPos w.heap.size)
  case atStart => exact ⟨0, Nat.zero_le _, by simp [World.iter_heap], rfl, (Below.refl _ _).alloc (Nat.le_refl _) _⟩
  case round =>
    obtain ⟨pos, hpos, hit, hu, hbel⟩ := hrel
    have HU := Lib.hid hu
    clear hu
    have HIP := Lib.hid (iterPos_of hit)
    by_cases hp : pos < s.size
    · have hnx : ∀ ty, (Instr.next (.pointer (some ⟨w.heap.size, 0, none⟩)) true ty).run Try.prog wr = _ := fun ty => Lib.run_next_any_at wr _ s pos ty hit hp
      have hdb := (decode_byte s pos hp 47 (by decide)).2
      have hle := decode_le s pos
      have hbel' := Lib.below_iterAt hbel (Nat.le_refl _) s (pos + (Utf8.decode s pos).2)
      have hit' := Lib.iterAt_heap wr w.heap.size s pos (pos + (Utf8.decode s pos).2) hit
      generalize wr.iterAt w.heap.size s (pos + (Utf8.decode s pos).2) = wi at *
      have HIT := Lib.hid hit'
      clear hit hit'
      by_cases z : (Utf8.decode s pos).1 = 43 ∨ (Utf8.decode s pos).1 = 35
      · have HF := Lib.hid (sign_here s pos hp z)
        have HC := Lib.hid (runeIn_yes _ wi z)
        clear z
        go_wp2_with (go_at_call 44; refine HC.out.mono ?_; rintro e w1 ⟨⟨k, rfl, hk⟩, hb1⟩)
        go_ret
        exact ⟨_, rfl, by rw [← HU.out, HF.out, decide_eq_true_iff]; omega, hbel'.trans (hb1.mono hbel'.size)⟩
      · have HF := Lib.hid (sign_step s pos hp (fun e => z (.inl e)) (fun e => z (.inr e)))
        have HC := Lib.hid (runeIn_no _ wi hle (fun e => z (.inl e)) (fun e => z (.inr e)))
        clear z
        go_wp2_with (go_at_call 44; refine HC.out.mono ?_; rintro e w1 ⟨rfl, hb1⟩)
        have hkeep := hb1.block w.heap.size (Array.getElem?_eq_some_iff.1 HIT.out).1
        go_roundw
        case rel => exact ⟨_, hdb.2, hkeep.trans HIT.out, by rw [← HU.out, HF.out], hbel'.trans (hb1.mono hbel'.size)⟩
        case measure => rw [iterPos_of (hkeep.trans HIT.out), HIP.out]; omega
    · have hnx : ∀ ty, (Instr.next (.pointer (some ⟨w.heap.size, 0, none⟩)) true ty).run Try.prog wr = _ := fun ty => Lib.run_next_end_at wr _ s pos ty hit hp
      have hf : sign s = false := by rw [← HU.out, drop_end s pos hp]; rfl
      have HF := Lib.hid hf
      clear hf
      go_wp2
      go_ret
      exact ⟨_, rfl, by rw [HF.out]; rfl, hbel⟩

theorem indexAny_any (s : ByteArray) (w : World) (hs : s.size ≤ 1000000000) : Calls Try.prog 36 #[.string s, .string ⟨#[43, 35]⟩] w (SignAt s w) := by
  by_cases h8 : s.size ≤ 8
  · exact indexAny_short s w h8
  · refine (Try.strings_IndexAny_long zeroSet s ⟨#[43, 35]⟩ w (Nat.le_refl 2) (by omega) (by omega) (by decide) ?_).mono fun e w' ⟨he, hw⟩ => ⟨_, he, ?_, ?_⟩
    · intro j b hb
      rw [show (⟨#[43, 35]⟩ : ByteArray).data.toList = [43, 35] from rfl] at hb
      match j, hb with
      | 0, hb => cases hb; decide
      | 1, hb => cases hb; decide
      | j + 2, hb => simp at hb
    · rw [show (⟨#[43, 35]⟩ : ByteArray).data.toList = [43, 35] from rfl, indexAny_sign]; rfl
    · rw [hw]; exact ((Below.refl _ _).alloc (Nat.le_refl _) _).alloc (by simp) _

set_option maxHeartbeats 400000 in
theorem containsAny_any (s : ByteArray) (w : World) (hs : s.size ≤ 1000000000) :
    Calls Try.prog 28 #[.string s, .string ⟨#[43, 35]⟩] w fun e w' => e = .returned (.bool (sign s)) ∧ Below w.heap.size w w' := by
  go_enter Try.func28, Try.ntmps28
  go_wp2_with fail
  refine (indexAny_any s w hs).mono ?_
  rintro e w1 ⟨k, rfl, hk, hb⟩
  have HK := Lib.hid hk
  clear hk
  go_wp2
  go_ret
  exact ⟨ret_bool HK.out, hb⟩

end Go.Proofs.Ytmjpnpnmhacknaa
