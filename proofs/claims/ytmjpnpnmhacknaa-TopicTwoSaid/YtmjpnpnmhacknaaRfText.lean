/- Proved here: the contract of the reference's more. -/
import Derived.Test.YtmjpnpnmhacknaaRfA
namespace Go.Proofs.Ytmjpnpnmhacknaa
open Go.RowKit Go.Proofs.Tp

def moreN (c : Nat) : Int × Nat × Nat := match need c with
  | none => (-1, 0, 0)
  | some [] => (0, 0, 0)
  | some (b :: p) => ((p.length : Int) + 1, b.1, b.2)

def moreV (c : Nat) : Value := .tuple #[.int .i64 (moreN c).1, .int .u8 ((moreN c).2.1 : Nat), .int .u8 ((moreN c).2.2 : Nat)]

theorem moreV_none {c : Nat} (h : need c = none) : moreV c = .tuple #[.int .i64 (-1), .int .u8 0, .int .u8 0] := by unfold moreV moreN; rw [h]; rfl
theorem moreV_zero {c : Nat} (h : need c = some []) : moreV c = .tuple #[.int .i64 0, .int .u8 0, .int .u8 0] := by unfold moreV moreN; rw [h]; rfl
theorem moreV_cons {c : Nat} {b : Nat × Nat} {p : List (Nat × Nat)} (h : need c = some (b :: p)) : moreV c = .tuple #[.int .i64 ((p.length : Int) + 1), .int .u8 (b.1 : Nat), .int .u8 (b.2 : Nat)] := by unfold moreV moreN; rw [h]

set_option maxHeartbeats 4000000 in
set_option maxRecDepth 100000 in
theorem more_any (c : Nat) (w : World) (hc : c < 256) (h0 : c ≠ 0) :
    Calls Try.prog 42 #[.int .u8 (c : Nat)] w fun e w' => e = .returned (moreV c) ∧ w = w' := by
  by_cases r0 : c < 128
  · have HV := Lib.hid (moreV_zero (show need c = some [] from by unfold need; rw [if_neg h0, if_pos r0]))
    have hI : (c : Int) < 128 := by omega
    have k224 : ((c : Int) == 224) = false := by rw [beq_eq_false_iff_ne]; omega
    have k237 : ((c : Int) == 237) = false := by rw [beq_eq_false_iff_ne]; omega
    have k240 : ((c : Int) == 240) = false := by rw [beq_eq_false_iff_ne]; omega
    have k244 : ((c : Int) == 244) = false := by rw [beq_eq_false_iff_ne]; omega
    go_enter Try.func42, Try.ntmps42
    go_wp2
    go_ret3
    exact ⟨by rw [HV.out]; rfl, rfl⟩
  by_cases r1 : c < 194
  · have HV := Lib.hid (moreV_none (show need c = none from by unfold need; rw [if_neg h0, if_neg r0, if_pos r1]))
    have hI : (c : Int) < 194 := by omega
    have hI2 : (128 : Int) ≤ (c : Int) := by omega
    have k224 : ((c : Int) == 224) = false := by rw [beq_eq_false_iff_ne]; omega
    have k237 : ((c : Int) == 237) = false := by rw [beq_eq_false_iff_ne]; omega
    have k240 : ((c : Int) == 240) = false := by rw [beq_eq_false_iff_ne]; omega
    have k244 : ((c : Int) == 244) = false := by rw [beq_eq_false_iff_ne]; omega
    go_enter Try.func42, Try.ntmps42
    go_wp2
    go_ret3
    exact ⟨by rw [HV.out]; rfl, rfl⟩
  by_cases r2 : c < 224
  · have HV := Lib.hid (moreV_cons (show need c = some [(128, 191)] from by unfold need; rw [if_neg h0, if_neg r0, if_neg r1, if_pos r2]))
    have hI : (c : Int) < 224 := by omega
    have hI2 : (194 : Int) ≤ (c : Int) := by omega
    have k224 : ((c : Int) == 224) = false := by rw [beq_eq_false_iff_ne]; omega
    have k237 : ((c : Int) == 237) = false := by rw [beq_eq_false_iff_ne]; omega
    have k240 : ((c : Int) == 240) = false := by rw [beq_eq_false_iff_ne]; omega
    have k244 : ((c : Int) == 244) = false := by rw [beq_eq_false_iff_ne]; omega
    go_enter Try.func42, Try.ntmps42
    go_wp2
    go_ret3
    exact ⟨by rw [HV.out]; rfl, rfl⟩
  by_cases e1 : c = 224
  · subst e1
    have HV := Lib.hid (moreV_cons (show need 224 = some [(160, 191), (128, 191)] from rfl))
    go_enter Try.func42, Try.ntmps42
    go_wp2
    go_ret3
    exact ⟨by rw [HV.out]; rfl, rfl⟩
  by_cases e2 : c = 237
  · subst e2
    have HV := Lib.hid (moreV_cons (show need 237 = some [(128, 159), (128, 191)] from rfl))
    go_enter Try.func42, Try.ntmps42
    go_wp2
    go_ret3
    exact ⟨by rw [HV.out]; rfl, rfl⟩
  by_cases r3 : c < 240
  · have HV := Lib.hid (moreV_cons (show need c = some [(128, 191), (128, 191)] from by unfold need; rw [if_neg h0, if_neg r0, if_neg r1, if_neg r2, if_neg e1, if_neg e2, if_pos r3]))
    have hI : (c : Int) < 240 := by omega
    have hI2 : (225 : Int) ≤ (c : Int) := by omega
    have k224 : ((c : Int) == 224) = false := by rw [beq_eq_false_iff_ne]; omega
    have k237 : ((c : Int) == 237) = false := by rw [beq_eq_false_iff_ne]; omega
    have k240 : ((c : Int) == 240) = false := by rw [beq_eq_false_iff_ne]; omega
    have k244 : ((c : Int) == 244) = false := by rw [beq_eq_false_iff_ne]; omega
    go_enter Try.func42, Try.ntmps42
    go_wp2
    go_ret3
    exact ⟨by rw [HV.out]; rfl, rfl⟩
  by_cases e3 : c = 240
  · subst e3
    have HV := Lib.hid (moreV_cons (show need 240 = some [(144, 191), (128, 191), (128, 191)] from rfl))
    go_enter Try.func42, Try.ntmps42
    go_wp2
    go_ret3
    exact ⟨by rw [HV.out]; rfl, rfl⟩
  by_cases r4 : c < 244
  · have HV := Lib.hid (moreV_cons (show need c = some [(128, 191), (128, 191), (128, 191)] from by unfold need; rw [if_neg h0, if_neg r0, if_neg r1, if_neg r2, if_neg e1, if_neg e2, if_neg r3, if_neg e3, if_pos r4]))
    have hI : (c : Int) < 244 := by omega
    have hI2 : (241 : Int) ≤ (c : Int) := by omega
    have k224 : ((c : Int) == 224) = false := by rw [beq_eq_false_iff_ne]; omega
    have k237 : ((c : Int) == 237) = false := by rw [beq_eq_false_iff_ne]; omega
    have k240 : ((c : Int) == 240) = false := by rw [beq_eq_false_iff_ne]; omega
    have k244 : ((c : Int) == 244) = false := by rw [beq_eq_false_iff_ne]; omega
    go_enter Try.func42, Try.ntmps42
    go_wp2
    go_ret3
    exact ⟨by rw [HV.out]; rfl, rfl⟩
  by_cases e4 : c = 244
  · subst e4
    have HV := Lib.hid (moreV_cons (show need 244 = some [(128, 143), (128, 191), (128, 191)] from rfl))
    go_enter Try.func42, Try.ntmps42
    go_wp2
    go_ret3
    exact ⟨by rw [HV.out]; rfl, rfl⟩
  · have HV := Lib.hid (moreV_none (show need c = none from by unfold need; rw [if_neg h0, if_neg r0, if_neg r1, if_neg r2, if_neg e1, if_neg e2, if_neg r3, if_neg e3, if_neg r4, if_neg e4]))
    have hI2 : (245 : Int) ≤ (c : Int) := by omega
    have hI : (c : Int) < 256 := by omega
    have k224 : ((c : Int) == 224) = false := by rw [beq_eq_false_iff_ne]; omega
    have k237 : ((c : Int) == 237) = false := by rw [beq_eq_false_iff_ne]; omega
    have k240 : ((c : Int) == 240) = false := by rw [beq_eq_false_iff_ne]; omega
    have k244 : ((c : Int) == 244) = false := by rw [beq_eq_false_iff_ne]; omega
    go_enter Try.func42, Try.ntmps42
    go_wp2
    go_ret3
    exact ⟨by rw [HV.out]; rfl, rfl⟩

theorem utf_len : ∀ (q : List (Nat × Nat)) (l : List UInt8), l.length < q.length → utf q l = false
  | [], _, h => by simp at h
  | _ :: _, [], _ => utf_short _ _
  | b :: q, c :: l, h => by rw [utf_cons, utf_len q l (by simpa using h), Bool.and_false]

theorem need_tail {c : Nat} {b : Nat × Nat} {p : List (Nat × Nat)} (h : need c = some (b :: p)) : (∀ x, x ∈ p → x = (128, 191)) ∧ b.1 < 256 ∧ b.2 < 256 ∧ p.length < 3 := by
  unfold need at h
  repeat' split at h
  all_goals first
    | (cases h; done)
    | (injection h with h; cases h; refine ⟨?_, by decide, by decide, by decide⟩; intro x hx; simp at hx; try exact hx)

theorem get_at' (s : ByteArray) (k : Nat) (h : k < s.size) : s.get! k = s[k] := by
  have := get_toList s k h
  rw [byte_at s k h] at this
  exact (Option.some.inj this).symm

end Go.Proofs.Ytmjpnpnmhacknaa
