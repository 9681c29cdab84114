/- Proved here: the contract of topic.Levels: it tells the levels of a text; below the heap's end nothing turns (texts of at most 10^9 bytes). -/
import Derived.Test.YtmjpnpnmhacknaaChecked
import Derived.Test.YtmjpnpnmhacknaaTpPlain
import Derived.WalkKit
import Derived.WalkSmall
import Derived.Laws.RangeAny
import Derived.Lib.Hide
import Derived.Maps.AppendAt
namespace Go.Proofs.Ytmjpnpnmhacknaa
open Go.RowKit Go.Proofs.Tp

theorem Try.info9 : (Try.prog.info? 9).map (fun i => (i.zero, i.size, i.bytes)) = some (some (.string ByteArray.empty), 1, 16) := by kernel_rfl

set_option maxHeartbeats 400000 in
set_option maxRecDepth 100000 in
theorem levels_any (s : ByteArray) (w : World) (hs : s.size ≤ 1000000000) :
    Calls Try.prog 14 #[.string s] w fun e w' => ∃ v, e = .returned v ∧ w'.ownsRow (w.heap.size + 1) 9 1 v (levels s).length ((levels s).map Value.string) ∧ Below w.heap.size w w' := by
  obtain ⟨i0, hi, hz0, hz1, hz2⟩ := info_parts Try.info9
  go_enter Try.func14, Try.ntmps14
  go_wp2
  go_loopw [3, 4] (fun v f wr => ∃ pos, pos ≤ s.size ∧ wr.heap[w.heap.size]? = some (.stringIter s pos) ∧ f = .int .i64 ((lvTo s pos).2 : Nat) ∧
      wr.ownsRow (w.heap.size + 1) 9 1 v (lvTo s pos).1.length ((lvTo s pos).1.map Value.string) ∧ Below w.heap.size w wr) (fun _ _ wr => s.size - wr.iterPos w.heap.size)
  case atStart => exact ⟨0, Nat.zero_le _, by simp [World.iter_heap], rfl, World.ownsRow_nil _ _ _ _, (Below.refl _ _).alloc (Nat.le_refl _) _⟩
  case round =>
    obtain ⟨pos, hpos, hit, rfl, hown, hbel⟩ := hrel
    have hle := lvTo_le s pos
    have HIP := Lib.hid (iterPos_of hit)
    have hsz : w.heap.size < wr.heap.size := (Array.getElem?_eq_some_iff.1 hit).1
    by_cases hp : pos < s.size
    · have hnx : ∀ ty, (Instr.next (.pointer (some ⟨w.heap.size, 0, none⟩)) true ty).run Try.prog wr = _ := fun ty => Lib.run_next_any_at wr _ s pos ty hit hp
      have hds := decode_byte s pos hp 47 (by decide)
      rw [show (47 : UInt8).toNat = 47 from rfl] at hds
      have hown' := ownsRow_iterAt hown (Nat.lt_succ_self w.heap.size) s (pos + (Utf8.decode s pos).2)
      have hbel' := Lib.below_iterAt hbel (Nat.le_refl _) s (pos + (Utf8.decode s pos).2)
      have hit' := Lib.iterAt_heap wr w.heap.size s pos (pos + (Utf8.decode s pos).2) hit
      have hsz' := Lib.iterAt_size wr w.heap.size s (pos + (Utf8.decode s pos).2)
      generalize wr.iterAt w.heap.size s (pos + (Utf8.decode s pos).2) = wi at *
      have HIT := Lib.hid hit'
      have HSZ := Lib.hid hsz'
      rw [← hsz'] at hsz
      clear hit hown hbel hit' hsz'
      obtain ⟨⟨hc, hw1, h47⟩ | ⟨hc, hno⟩, hw, hend⟩ := hds
      · have hc' : (((Utf8.decode s pos).1 : Int) == 47) = true := by rw [hc]; rfl
        have hto : lvTo s (pos + 1) = ((lvTo s pos).1 ++ [s.extract (lvTo s pos).2 pos], pos + 1) := by rw [lvTo_succ]; unfold lvStep; rw [if_pos h47]
        have HTO := Lib.hid hto
        have HW1 := Lib.hid hw1
        clear hto hw1 h47 hc
        go_wp2_with (at_builtin; refine wpList_append_own _ rfl _ _ 26 rfl (w.heap.size + 1) 9 i0 (.string ByteArray.empty) 1 16 Try.underlying26 hi hz0 hz1 hz2 rfl (by decide) _ _ _ rfl (hown'.alloc _) ⟨wi.heap.size, 0, none⟩ 1 1 [.string (s.extract (lvTo s pos).2 pos)] rfl rfl ?c1 ?c2 ?c3 ?c4 ?c5 ?_)
        case c1 => exact cell_one_new _ _ _
        case c2 => simp [Value.oneCell']
        case c3 => unfold maxLen; omega
        case c4 => omega
        case c5 => simp; omega
        intro v' w1 hown1 hgrow _
        go_wp2
        go_roundw
        case rel =>
          have h1 := hown'.alloc (.cells #[.string (s.extract (lvTo s pos).2 pos)] 9)
          refine ⟨pos + 1, by omega, ?_, ?_, ?_, ?_⟩
          · rw [hgrow.block _ (by simp; omega) (fun e => by have := (h1.lt _ e.symm).1; omega), Below.heap_alloc _ _ _ hsz, HIT.out, HW1.out]
          · rw [HTO.out]; simp
          · rw [HTO.out]; simpa using hown1
          · exact (hbel'.alloc (by omega) _).grown hgrow (by simp; omega) (fun k e => by have := (h1.lt _ e).1; omega)
        case measure =>
          have h1 := hown'.alloc (.cells #[.string (s.extract (lvTo s pos).2 pos)] 9)
          rw [iterPos_of (p := pos + 1) (s := s) (by rw [hgrow.block _ (by simp; omega) (fun e => by have := (h1.lt _ e.symm).1; omega), Below.heap_alloc _ _ _ hsz, HIT.out, HW1.out]), HIP.out]
          omega
      · have hc' : (((Utf8.decode s pos).1 : Int) == 47) = false := by rw [beq_eq_false_iff_ne]; omega
        have hto := lvTo_jump s pos _ hno
        have HTO := Lib.hid hto
        clear hto hno hc
        go_wp2
        go_roundw
        case rel => exact ⟨pos + (Utf8.decode s pos).2, hend, HIT.out, by rw [HTO.out], by rw [HTO.out]; exact hown', hbel'⟩
        case measure =>
          rw [iterPos_of HIT.out, HIP.out]
          omega
    · have hnx : ∀ ty, (Instr.next (.pointer (some ⟨w.heap.size, 0, none⟩)) true ty).run Try.prog wr = _ := fun ty => Lib.run_next_end_at wr _ s pos ty hit hp
      obtain rfl : pos = s.size := by omega
      go_wp2_with (at_builtin; refine wpList_append_own _ rfl _ _ 26 rfl (w.heap.size + 1) 9 i0 (.string ByteArray.empty) 1 16 Try.underlying26 hi hz0 hz1 hz2 rfl (by decide) _ _ _ rfl (hown.alloc _) ⟨wr.heap.size, 0, none⟩ 1 1 [.string (s.extract (lvTo s s.size).2 s.size)] rfl rfl ?d1 ?d2 ?d3 ?d4 ?d5 ?_)
      case d1 => exact cell_one_new _ _ _
      case d2 => simp [Value.oneCell']
      case d3 => unfold maxLen; omega
      case d4 => omega
      case d5 => simp; omega
      intro v' w1 hown1 hgrow _
      have h1 := hown.alloc (.cells #[.string (s.extract (lvTo s s.size).2 s.size)] 9)
      go_wp2
      go_ret
      refine ⟨_, rfl, ?_, (hbel.alloc (by omega) _).grown hgrow (by simp; omega) (fun k e => by have := (h1.lt _ e).1; omega)⟩
      simpa [levels] using hown1
end Go.Proofs.Ytmjpnpnmhacknaa
