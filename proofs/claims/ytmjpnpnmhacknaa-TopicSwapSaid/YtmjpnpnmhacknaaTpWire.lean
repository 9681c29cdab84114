/- Proved here: the contract of wire.Check. -/
import Derived.Test.YtmjpnpnmhacknaaChecked
import Derived.Test.YtmjpnpnmhacknaaTpSpec
import Derived.Test.YtmjpnpnmhacknaaShelf
import Derived.WalkKit
import Derived.WalkSmall
import Derived.WalkSpells
import Derived.Laws.RangeAny
import Derived.Lib.Hide
namespace Go.Proofs.Ytmjpnpnmhacknaa
open Go.RowKit Go.Proofs.Tp

set_option maxHeartbeats 400000 in
set_option maxRecDepth 100000 in
/-- 'wire.Check': its second result is 0 just where the text is well-formed. -/
theorem wireCheck_any (s : ByteArray) (w : World) (hs : s.size ≤ 1000000000) :
    Calls Try.prog 35 #[.string s] w fun e w' => ∃ n c : Int, e = .returned (.tuple #[.int .i64 n, .int .i64 c]) ∧ (c == 0) = isText s ∧ Below w.heap.size w w' := by
  by_cases hl : s.size ≤ 65535
  · go_enter Try.func35, Try.ntmps35
    go_wp2
    go_loopw [] (fun wr => ∃ pos, pos ≤ s.size ∧ wr.heap[w.heap.size]? = some (.stringIter s pos) ∧ utf [] (s.data.toList.drop pos) = utf [] s.data.toList ∧ Below w.heap.size w wr) (fun wr => s.size - wr.iterPos w.heap.size)
    case atStart => exact ⟨0, Nat.zero_le _, by simp [World.iter_heap], rfl, (Below.refl _ _).alloc (Nat.le_refl _) _⟩
    case round =>
      obtain ⟨pos, hpos, hit, hu, hbel⟩ := hrel
      have HU := Lib.hid hu
      clear hu
      have HIP := Lib.hid (iterPos_of hit)
      by_cases hp : pos < s.size
      · have hnx : ∀ ty, (Instr.next (.pointer (some ⟨w.heap.size, 0, none⟩)) true ty).run Try.prog wr = _ := fun ty => Lib.run_next_any_at wr _ s pos ty hit hp
        have hdu := decode_utf s pos hp
        have hdb := (decode_byte s pos hp 47 (by decide)).2
        have hbel' := Lib.below_iterAt hbel (Nat.le_refl _) s (pos + (Utf8.decode s pos).2)
        have hit' := Lib.iterAt_heap wr w.heap.size s pos (pos + (Utf8.decode s pos).2) hit
        generalize wr.iterAt w.heap.size s (pos + (Utf8.decode s pos).2) = wi at *
        have HIT := Lib.hid hit'
        clear hit hit'
        by_cases z : (Utf8.decode s pos).1 = 0
        · have hz : (((Utf8.decode s pos).1 : Int) == 0) = true := by rw [z]; rfl
          have hf : utf [] s.data.toList = false := by
            rcases hdu with h | h
            · rw [← HU.out]; exact h.2
            · exact absurd z h.1
          have HF := Lib.hid hf
          clear z hdu hf
          go_wp2
          go_ret2
          exact ⟨_, _, rfl, by simp [isText, HF.out], hbel'⟩
        · have hz : (((Utf8.decode s pos).1 : Int) == 0) = false := by rw [beq_eq_false_iff_ne]; omega
          by_cases z2 : (Utf8.decode s pos).1 = 65533
          · have hz2 : (((Utf8.decode s pos).1 : Int) == 65533) = true := by rw [z2]; rfl
            have hpre := decode_fffd s pos hp z2
            have hext : List.take (s.size - pos) (List.drop pos s.data.toList) = s.data.toList.drop pos := List.take_of_length_le (by simp)
            by_cases z3 : (Utf8.decode s pos).2 = 1
            · have hP : Lib.hasPrefix (List.take (s.size - pos) (List.drop pos s.data.toList)) [239, 191, 189] = false := by rw [hext, hpre, z3]; rfl
              have hf : utf [] s.data.toList = false := by
                rcases hdu with h | h
                · rw [← HU.out]; exact h.2
                · exact absurd ⟨z2, z3⟩ h.2.1
              have HF := Lib.hid hf
              clear z z2 z3 hdu hf hpre hext
              go_wp2_with (go_at_call 43; refine (Try.strings_HasPrefix _ _ _).mono ?_; rintro e w' ⟨rfl, rfl⟩)
              go_ret2
              exact ⟨_, _, rfl, by simp [isText, HF.out], hbel'⟩
            · have hP : Lib.hasPrefix (List.take (s.size - pos) (List.drop pos s.data.toList)) [239, 191, 189] = true := by rw [hext, hpre, decide_eq_false z3]; rfl
              have hf : utf [] (s.data.toList.drop (pos + (Utf8.decode s pos).2)) = utf [] s.data.toList := by
                rw [← HU.out]
                rcases hdu with h | h
                · rcases h.1 with h | h
                  · exact absurd h z
                  · exact absurd h.2 z3
                · exact h.2.2.symm
              have HF := Lib.hid hf
              clear z z2 z3 hdu hf hpre hext
              go_wp2_with (go_at_call 43; refine (Try.strings_HasPrefix _ _ _).mono ?_; rintro e w' ⟨rfl, rfl⟩)
              go_roundw
              case rel => exact ⟨_, hdb.2, HIT.out, HF.out, hbel'⟩
              case measure => rw [iterPos_of HIT.out, HIP.out]; omega
          · have hz2 : (((Utf8.decode s pos).1 : Int) == 65533) = false := by rw [beq_eq_false_iff_ne]; omega
            have hf : utf [] (s.data.toList.drop (pos + (Utf8.decode s pos).2)) = utf [] s.data.toList := by
              rw [← HU.out]
              rcases hdu with h | h
              · rcases h.1 with h | h
                · exact absurd h z
                · exact absurd h.1 z2
              · exact h.2.2.symm
            have HF := Lib.hid hf
            clear z z2 hdu hf
            go_wp2
            go_roundw
            case rel => exact ⟨_, hdb.2, HIT.out, HF.out, hbel'⟩
            case measure => rw [iterPos_of HIT.out, HIP.out]; omega
      · have hnx : ∀ ty, (Instr.next (.pointer (some ⟨w.heap.size, 0, none⟩)) true ty).run Try.prog wr = _ := fun ty => Lib.run_next_end_at wr _ s pos ty hit hp
        have hf : utf [] s.data.toList = true := by rw [← HU.out, drop_end s pos hp]; rfl
        have HF := Lib.hid hf
        clear hf
        go_wp2
        go_ret2
        exact ⟨_, _, rfl, by simp [isText, HF.out, hl], hbel⟩
  · go_enter Try.func35, Try.ntmps35
    go_wp2
    go_ret2
    exact ⟨_, _, rfl, by simp [isText, hl], Below.refl _ _⟩
end Go.Proofs.Ytmjpnpnmhacknaa
