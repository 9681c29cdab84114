/- Proved here: the contracts of topic.text and topic.Check. -/
import Derived.Test.YtmjpnpnmhacknaaTpAny
import Derived.Test.YtmjpnpnmhacknaaTpLevels
import Derived.BigQuiet
import Derived.Deep.QuietTactic
namespace Go.Proofs.Ytmjpnpnmhacknaa
open Go.RowKit Go.Proofs.Tp

theorem ret_int {k : IntKind} {a b : Int} (h : a = b) : Ending.returned (.int k a) = .returned (.int k b) := by rw [h]

theorem isEmpty_of (s : ByteArray) (h : s.size = 0) : s.toList.isEmpty = true := by
  rw [Lib.toList_data, List.isEmpty_iff, ← List.length_eq_zero_iff]; simpa using h
theorem isEmpty_no (s : ByteArray) (h : s.size ≠ 0) : s.toList.isEmpty = false := by
  rw [Lib.toList_data, ← Bool.not_eq_true, List.isEmpty_iff, ← List.length_eq_zero_iff]; simpa using h

set_option maxHeartbeats 400000 in
theorem text_any (s : ByteArray) (w : World) (hs : s.size ≤ 1000000000) :
    Calls Try.prog 27 #[.string s] w fun e w' => e = .returned (.int .i64 (textE s)) ∧ Below w.heap.size w w' := by
  by_cases h0 : s.size = 0
  · have hd := isEmpty_of s h0
    have HE := Lib.hid h0
    clear h0
    go_enter Try.func27, Try.ntmps27
    go_wp2
    go_ret
    exact ⟨ret_int (by simp [textE, HE.out]), Below.refl _ _⟩
  · have hd := isEmpty_no s h0
    have HE := Lib.hid h0
    clear h0
    go_enter Try.func27, Try.ntmps27
    go_wp2_with fail
    refine (wireCheck_any s _ hs).mono ?_
    rintro e w1 ⟨n, c, rfl, hc, hb⟩
    cases ht : isText s
    · rw [ht] at hc
      have HT := Lib.hid ht
      clear ht
      go_wp2
      go_ret
      exact ⟨ret_int (by simp [textE, HE.out, HT.out]), hb⟩
    · rw [ht] at hc
      have HT := Lib.hid ht
      clear ht
      go_wp2
      go_ret
      exact ⟨ret_int (by simp [textE, HE.out, HT.out]), hb⟩

set_option maxHeartbeats 400000 in
theorem check_any (s : ByteArray) (w : World) (hs : s.size ≤ 1000000000) :
    Calls Try.prog 15 #[.string s] w fun e w' => e = .returned (.int .i64 (chk s)) ∧ Below w.heap.size w w' := by
  have h0 := textE_nonneg s
  have h1 := textE_lt s
  by_cases ht : textE s = 0
  · have HT := Lib.hid ht
    have hc : (textE s != 0) = false := by rw [ht]; rfl
    clear ht h0 h1
    go_enter Try.func15, Try.ntmps15
    go_wp2_with fail
    refine (text_any s _ hs).mono ?_
    rintro e w1 ⟨rfl, hb⟩
    go_wp2_with fail
    refine (containsAny_any s _ hs).mono ?_
    rintro e w2 ⟨rfl, hb2⟩
    cases hg : sign s
    · have HG := Lib.hid hg
      clear hg
      go_wp2
      go_ret
      exact ⟨ret_int (by simp [chk, HT.out, HG.out]), hb.trans (hb2.mono hb.size)⟩
    · have HG := Lib.hid hg
      clear hg
      go_wp2
      go_ret
      exact ⟨ret_int (by simp [chk, HT.out, HG.out]), hb.trans (hb2.mono hb.size)⟩
  · have HT := Lib.hid ht
    have hc : (textE s != 0) = true := by rw [bne_iff_ne]; exact ht
    clear ht h0 h1
    go_enter Try.func15, Try.ntmps15
    go_wp2_with fail
    refine (text_any s _ hs).mono ?_
    rintro e w1 ⟨rfl, hb⟩
    go_wp2
    go_ret
    exact ⟨ret_int (by simp [chk, HT.out]), hb⟩

end Go.Proofs.Ytmjpnpnmhacknaa
