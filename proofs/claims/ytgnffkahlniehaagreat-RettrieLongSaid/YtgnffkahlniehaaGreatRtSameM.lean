/- Proved here: crierref2.SameMessage. -/
import Derived.Test.YtgnffkahlniehaaGreatRtSame
namespace Go.Proofs.YtgnffkahlniehaaGreat
open Go Go.RowKit Go.Proofs.Gs Go.Proofs.Tri Go.Proofs.Rt Go.Proofs.Tp

set_option maxHeartbeats 4000000 in
set_option maxRecDepth 100000 in
theorem sameMsg_any {F1 F2 : Nat → Prop} {w : World} {v1 v2 : Value} {m1 m2 : MsgV} (h1 : MsgVal F1 w v1 m1) (h2 : MsgVal F2 w v2 m2) (hl1 : m1.pay.length ≤ 1000000000) :
    Calls Tryz.prog 39 #[v1, v2] w fun e w' => ∃ b, e = .returned (.bool b) ∧ (b = true ↔ m1 = m2) ∧ Below w.heap.size w w' := by
  obtain ⟨p1, rfl, r1⟩ := h1
  obtain ⟨p2, rfl, r2⟩ := h2
  have R1 := Lib.hid r1.1
  have R2 := Lib.hid r2.1
  obtain ⟨⟨_, a1, c1, rfl, _⟩, _⟩ := r1
  obtain ⟨⟨_, a2, c2, rfl, _⟩, _⟩ := r2
  have heq : m1 = m2 ↔ m1.topic = m2.topic ∧ m1.pay = m2.pay ∧ m1.qos = m2.qos ∧ m1.ret = m2.ret := by
    cases m1; cases m2; simp
  have HEQ := Lib.hid heq
  have two := two_rows (w := w) (c1 := #[.string m1.topic, .slice a1 m1.pay.length c1, .int .i64 m1.qos, .bool m1.ret]) (c2 := #[.string m2.topic, .slice a2 m2.pay.length c2, .int .i64 m2.qos, .bool m2.ret]) (t := 36) rfl
  have pre : ∀ W, (w.alloc (.cells #[.string m1.topic, .slice a1 m1.pay.length c1, .int .i64 m1.qos, .bool m1.ret] 36)).alloc (.cells #[.string m2.topic, .slice a2 m2.pay.length c2, .int .i64 m2.qos, .bool m2.ret] 36) = W → Below w.heap.size w W := fun W hW => (two_rows hW).1
  clear heq two pre
  by_cases ht : m1.topic = m2.topic
  · have e1 : (m1.topic.toList == m2.topic.toList) = true := by rw [ht]; simp
    by_cases hq : m1.qos = m2.qos
    · have e2 : (m1.qos == m2.qos) = true := by rw [hq]; simp
      by_cases hr : m1.ret = m2.ret
      · have e3 : (m1.ret == m2.ret) = true := by rw [hr]; simp
        have HT := Lib.hid ht
        have HQ := Lib.hid hq
        have HR := Lib.hid hr
        clear ht hq hr
        go_enter Tryz.func39, Tryz.ntmps39
        go_wp2_with fail
        refine (sameBytes_any (R1.out.below (two_rows rfl).1) (R2.out.below (two_rows rfl).1) (by omega)).mono ?_
        rintro e w' ⟨rfl, k, rfl⟩
        go_wp2_with fail
        go_ret
        exact ⟨_, rfl, by rw [HEQ.out]; simp [HT.out, HQ.out, HR.out], (two_rows rfl).1.trans ((below_drew _ k).mono (two_rows rfl).1.size)⟩
      · have e3 : (m1.ret == m2.ret) = false := by rw [beq_eq_false_iff_ne]; exact hr
        have HR := Lib.hid hr
        clear ht hq hr
        go_enter Tryz.func39, Tryz.ntmps39
        go_wp2_with fail
        go_ret
        exact ⟨_, rfl, by rw [HEQ.out]; simp [HR.out], (two_rows rfl).1⟩
    · have e2 : (m1.qos == m2.qos) = false := by rw [beq_eq_false_iff_ne]; exact hq
      have HQ := Lib.hid hq
      clear ht hq
      go_enter Tryz.func39, Tryz.ntmps39
      go_wp2_with fail
      go_ret
      exact ⟨_, rfl, by rw [HEQ.out]; simp [HQ.out], (two_rows rfl).1⟩
  · have e1 : (m1.topic.toList == m2.topic.toList) = false := by rw [beq_eq_false_iff_ne]; exact fun e => ht (ba_ext (by rwa [Lib.toList_data, Lib.toList_data] at e))
    have HT := Lib.hid ht
    clear ht
    go_enter Tryz.func39, Tryz.ntmps39
    go_wp2_with fail
    go_ret
    exact ⟨_, rfl, by rw [HEQ.out]; simp [HT.out], (two_rows rfl).1⟩
end Go.Proofs.YtgnffkahlniehaaGreat
