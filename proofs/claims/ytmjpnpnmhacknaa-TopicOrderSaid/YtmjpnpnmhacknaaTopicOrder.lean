/- Proved: crierlaw5.TopicOrder returns true for every three texts. (The frame came from the kit's proof-skeleton.mjs.) -/
import Derived.Test.YtmjpnpnmhacknaaRows
import Derived.Test.YtmjpnpnmhacknaaLawPost
import Derived.Test.YtmjpnpnmhacknaaLwP
import Derived.WalkKit
import Derived.ProofKit
import Derived.OpenShut
import Derived.ShutString
namespace Go.Proofs.Ytmjpnpnmhacknaa.topicOrder
open Go.Proofs.Tp Go.ChangeShapes Go.WideShapes Go.ChangeAt Go.RowKit
open Go.ChangeMaps (open_string shut_string)
set_option linter.unusedVariables false      -- a walk need not use every 'w<i>' (that an integer argument fits its kind)

theorem own : ownKnob Try.prog.godebug = none := by kernel_rfl

set_option maxHeartbeats 2000000 in
set_option maxRecDepth 1000000 in
theorem walk (a0 : ByteArray) (a1 : ByteArray) (a2 : ByteArray) (w0 : a0.size ≤ maxLen) (w1 : a1.size ≤ maxLen) (w2 : a2.size ≤ maxLen) (w : World) :
    Calls Try.prog 4 #[.string a0, .string a1, .string a2] w fun e w' => e = .returned (.bool true) ∧ Below w.heap.size w w' := by
  unfold maxLen at w0 w1 w2
  have hsmall : ∀ {x : ByteArray}, ¬ x.size ≤ 200000 → (200000 : Int) < (x.size : Int) := fun h => by omega
  by_cases h0 : a0.size ≤ 200000
  case neg =>
    have hI := hsmall h0
    go_enter Try.func4, Try.ntmps4
    go_wp2_with fail
    go_ret
    exact ⟨rfl, Below.refl _ _⟩
  by_cases h1 : a1.size ≤ 200000
  case neg =>
    have hI := hsmall h1
    have hI0 : ¬ ((200000 : Int) < (a0.size : Int)) := by omega
    go_enter Try.func4, Try.ntmps4
    go_wp2_with fail
    go_ret
    exact ⟨rfl, Below.refl _ _⟩
  by_cases h2 : a2.size ≤ 200000
  case neg =>
    have hI := hsmall h2
    have hI0 : ¬ ((200000 : Int) < (a0.size : Int)) := by omega
    have hI1 : ¬ ((200000 : Int) < (a1.size : Int)) := by omega
    go_enter Try.func4, Try.ntmps4
    go_wp2_with fail
    go_ret
    exact ⟨rfl, Below.refl _ _⟩
  clear hsmall
  have hI0 : ¬ ((200000 : Int) < (a0.size : Int)) := by omega
  have hI1 : ¬ ((200000 : Int) < (a1.size : Int)) := by omega
  have hI2 : ¬ ((200000 : Int) < (a2.size : Int)) := by omega
  have b0 : a0.size ≤ 1000000000 := by omega
  have b1 : a1.size ≤ 1000000000 := by omega
  have b2 : a2.size ≤ 1000000000 := by omega
  have bd : (a0 ++ ⟨#[47]⟩ ++ a1).size ≤ 1000000000 := by
    rw [ByteArray.size_append, ByteArray.size_append]
    have : (⟨#[47]⟩ : ByteArray).size = 1 := rfl
    omega
  have l0 := levels_len a0 b0
  have l1 := levels_len a1 b1
  have hcut : levels (a0 ++ ⟨#[47]⟩ ++ a1) = levels a0 ++ levels a1 := levels_cut a0 a1
  have kd : cmpT a0 (a0 ++ ⟨#[47]⟩ ++ a1) = -1 := by
    unfold cmpT; rw [hcut]; exact cmpL_more _ _ (fun e => by rw [e] at l1; simp at l1)
  have kr : cmpT a1 a0 = - cmpT a0 a1 := cmpL_rev _ _
  have kz : cmpT a0 a1 = 0 ↔ a0 = a1 := ⟨fun h => levels_inj ((cmpL_zero _ _).1 h), fun h => by rw [h]; exact (cmpL_zero _ _).2 rfl⟩
  have kt : cmpT a0 a1 ≤ 0 → cmpT a1 a2 ≤ 0 → cmpT a0 a2 ≤ 0 := cmpL_trans _ _ _
  have kb : cmpT a0 a1 = -1 → cmpT a1 (a0 ++ ⟨#[47]⟩ ++ a1) = -1 → preL (levels a0) (levels a1) = true := by
    intro h1 h2
    unfold cmpT at h1 h2
    rw [hcut] at h2
    exact cmpL_between _ _ _ h1 h2
  clear hcut
  have KZ := Lib.hid kz
  have KT := Lib.hid kt
  have KB := Lib.hid kb
  clear kz kt kb w0 w1 w2 h0 h1 h2
  have eqF : cmpT a0 a1 ≠ 0 → (a0.toList == a1.toList) = false := fun h => by
    rw [beq_eq_false_iff_ne, Lib.toList_data, Lib.toList_data]; intro e; exact h (KZ.out.2 (ba_ext e))
  have EQF := Lib.hid eqF
  clear eqF
  rcases cmpL_cases (levels a0) (levels a1) with hx | hx | hx
  · have kx : cmpT a0 a1 = -1 := hx
    clear hx
    rw [kx] at kr
    have he : (a0.toList == a1.toList) = false := EQF.out (by rw [kx]; decide)
    rcases Int.lt_or_le 0 (cmpT a1 a2) with hy0 | hy0
    · have ky : decide (cmpT a1 a2 ≤ 0) = false := by rw [decide_eq_false_iff_not]; omega
      by_cases hw : cmpT a1 (a0 ++ ⟨#[47]⟩ ++ a1) = -1
      · have HP := Lib.hid (KB.out kx hw)
        have kw : (cmpT a1 (a0 ++ ⟨#[47]⟩ ++ a1) != -1) = false := by rw [hw]; rfl
        clear hy0 hw
        have hb : Below w.heap.size w w := Below.refl _ _
        go_enter Try.func4, Try.ntmps4
        go_wp2_with fail
        refine (at_below (known_any _) hb).mono ?_
        clear hb
        rintro e u1 ⟨rfl, hb⟩
        go_wp2_with fail
        refine (at_below (compare_any a0 a1 _ b0 b1) hb).mono ?_
        clear hb
        rintro e u2 ⟨rfl, hb⟩
        go_wp2_with fail
        refine (at_below (compare_any a1 a2 _ b1 b2) hb).mono ?_
        clear hb
        rintro e u3 ⟨rfl, hb⟩
        go_wp2_with fail
        refine (at_below (compare_any a0 a2 _ b0 b2) hb).mono ?_
        clear hb
        rintro e u4 ⟨rfl, hb⟩
        go_wp2_with fail
        refine (at_below (compare_any a1 a0 _ b1 b0) hb).mono ?_
        clear hb
        rintro e u5 ⟨rfl, hb⟩
        go_wp2_with fail
        refine (at_below (compare_any _ _ _ b0 bd) hb).mono ?_
        clear hb
        rintro e u6 ⟨rfl, hb⟩
        go_wp2_with fail
        refine (at_below (compare_any _ _ _ b1 bd) hb).mono ?_
        clear hb
        rintro e u7 ⟨rfl, hb⟩
        go_wp2_with fail
        refine (levels_any a1 _ b1).mono ?_
        rintro e t1 ⟨v1, rfl, hown1, hc1⟩
        have S1 := StrsAt.of_owns hown1
        clear hown1
        go_wp2_with fail
        refine (levels_any a0 _ b0).mono ?_
        rintro e t2 ⟨v2, rfl, hown2, hc2⟩
        have S2 := StrsAt.of_owns hown2
        clear hown2
        have hb2 := (hb.trans (hc1.mono hb.size)).trans (hc2.mono (Nat.le_trans hb.size hc1.size))
        clear hb
        have hb := hb2
        clear hb2
        have HS1 := Lib.hid (S1.below hc2)
        have HS2 := Lib.hid S2
        clear S1 S2 hc1 hc2
        go_wp2_with fail
        refine (at_below (below_any (levels a1) (levels a0) _ _ _ HS1.out HS2.out l1.1 l0.1 l1.2) hb).mono ?_
        clear hb
        rintro e u20 ⟨rfl, hb⟩
        rw [HP.out]
        go_wp2_with fail
        go_ret
        exact ⟨rfl, hb⟩
      · have kw : (cmpT a1 (a0 ++ ⟨#[47]⟩ ++ a1) != -1) = true := by rw [bne_iff_ne]; exact hw
        clear hy0 hw
        have hb : Below w.heap.size w w := Below.refl _ _
        go_enter Try.func4, Try.ntmps4
        go_wp2_with fail
        refine (at_below (known_any _) hb).mono ?_
        clear hb
        rintro e u1 ⟨rfl, hb⟩
        go_wp2_with fail
        refine (at_below (compare_any a0 a1 _ b0 b1) hb).mono ?_
        clear hb
        rintro e u2 ⟨rfl, hb⟩
        go_wp2_with fail
        refine (at_below (compare_any a1 a2 _ b1 b2) hb).mono ?_
        clear hb
        rintro e u3 ⟨rfl, hb⟩
        go_wp2_with fail
        refine (at_below (compare_any a0 a2 _ b0 b2) hb).mono ?_
        clear hb
        rintro e u4 ⟨rfl, hb⟩
        go_wp2_with fail
        refine (at_below (compare_any a1 a0 _ b1 b0) hb).mono ?_
        clear hb
        rintro e u5 ⟨rfl, hb⟩
        go_wp2_with fail
        refine (at_below (compare_any _ _ _ b0 bd) hb).mono ?_
        clear hb
        rintro e u6 ⟨rfl, hb⟩
        go_wp2_with fail
        refine (at_below (compare_any _ _ _ b1 bd) hb).mono ?_
        clear hb
        rintro e u7 ⟨rfl, hb⟩
        go_wp2_with fail
        go_ret
        exact ⟨rfl, hb⟩
    · have ky : decide (cmpT a1 a2 ≤ 0) = true := by rw [decide_eq_true_eq]; omega
      have kz0 : decide (0 < cmpT a0 a2) = false := by rw [decide_eq_false_iff_not]; have := KT.out (by omega) (by omega); omega
      by_cases hw : cmpT a1 (a0 ++ ⟨#[47]⟩ ++ a1) = -1
      · have HP := Lib.hid (KB.out kx hw)
        have kw : (cmpT a1 (a0 ++ ⟨#[47]⟩ ++ a1) != -1) = false := by rw [hw]; rfl
        clear hy0 hw
        have hb : Below w.heap.size w w := Below.refl _ _
        go_enter Try.func4, Try.ntmps4
        go_wp2_with fail
        refine (at_below (known_any _) hb).mono ?_
        clear hb
        rintro e u1 ⟨rfl, hb⟩
        go_wp2_with fail
        refine (at_below (compare_any a0 a1 _ b0 b1) hb).mono ?_
        clear hb
        rintro e u2 ⟨rfl, hb⟩
        go_wp2_with fail
        refine (at_below (compare_any a1 a2 _ b1 b2) hb).mono ?_
        clear hb
        rintro e u3 ⟨rfl, hb⟩
        go_wp2_with fail
        refine (at_below (compare_any a0 a2 _ b0 b2) hb).mono ?_
        clear hb
        rintro e u4 ⟨rfl, hb⟩
        go_wp2_with fail
        refine (at_below (compare_any a1 a0 _ b1 b0) hb).mono ?_
        clear hb
        rintro e u5 ⟨rfl, hb⟩
        go_wp2_with fail
        refine (at_below (compare_any _ _ _ b0 bd) hb).mono ?_
        clear hb
        rintro e u6 ⟨rfl, hb⟩
        go_wp2_with fail
        refine (at_below (compare_any _ _ _ b1 bd) hb).mono ?_
        clear hb
        rintro e u7 ⟨rfl, hb⟩
        go_wp2_with fail
        refine (levels_any a1 _ b1).mono ?_
        rintro e t1 ⟨v1, rfl, hown1, hc1⟩
        have S1 := StrsAt.of_owns hown1
        clear hown1
        go_wp2_with fail
        refine (levels_any a0 _ b0).mono ?_
        rintro e t2 ⟨v2, rfl, hown2, hc2⟩
        have S2 := StrsAt.of_owns hown2
        clear hown2
        have hb2 := (hb.trans (hc1.mono hb.size)).trans (hc2.mono (Nat.le_trans hb.size hc1.size))
        clear hb
        have hb := hb2
        clear hb2
        have HS1 := Lib.hid (S1.below hc2)
        have HS2 := Lib.hid S2
        clear S1 S2 hc1 hc2
        go_wp2_with fail
        refine (at_below (below_any (levels a1) (levels a0) _ _ _ HS1.out HS2.out l1.1 l0.1 l1.2) hb).mono ?_
        clear hb
        rintro e u20 ⟨rfl, hb⟩
        rw [HP.out]
        go_wp2_with fail
        go_ret
        exact ⟨rfl, hb⟩
      · have kw : (cmpT a1 (a0 ++ ⟨#[47]⟩ ++ a1) != -1) = true := by rw [bne_iff_ne]; exact hw
        clear hy0 hw
        have hb : Below w.heap.size w w := Below.refl _ _
        go_enter Try.func4, Try.ntmps4
        go_wp2_with fail
        refine (at_below (known_any _) hb).mono ?_
        clear hb
        rintro e u1 ⟨rfl, hb⟩
        go_wp2_with fail
        refine (at_below (compare_any a0 a1 _ b0 b1) hb).mono ?_
        clear hb
        rintro e u2 ⟨rfl, hb⟩
        go_wp2_with fail
        refine (at_below (compare_any a1 a2 _ b1 b2) hb).mono ?_
        clear hb
        rintro e u3 ⟨rfl, hb⟩
        go_wp2_with fail
        refine (at_below (compare_any a0 a2 _ b0 b2) hb).mono ?_
        clear hb
        rintro e u4 ⟨rfl, hb⟩
        go_wp2_with fail
        refine (at_below (compare_any a1 a0 _ b1 b0) hb).mono ?_
        clear hb
        rintro e u5 ⟨rfl, hb⟩
        go_wp2_with fail
        refine (at_below (compare_any _ _ _ b0 bd) hb).mono ?_
        clear hb
        rintro e u6 ⟨rfl, hb⟩
        go_wp2_with fail
        refine (at_below (compare_any _ _ _ b1 bd) hb).mono ?_
        clear hb
        rintro e u7 ⟨rfl, hb⟩
        go_wp2_with fail
        go_ret
        exact ⟨rfl, hb⟩
  · have kx : cmpT a0 a1 = 0 := hx
    clear hx
    rw [kx] at kr
    have he : (a0.toList == a1.toList) = true := by rw [KZ.out.1 kx]; simp
    rcases Int.lt_or_le 0 (cmpT a1 a2) with hy0 | hy0
    · have ky : decide (cmpT a1 a2 ≤ 0) = false := by rw [decide_eq_false_iff_not]; omega
      clear hy0
      have hb : Below w.heap.size w w := Below.refl _ _
      go_enter Try.func4, Try.ntmps4
      go_wp2_with fail
      refine (at_below (known_any _) hb).mono ?_
      clear hb
      rintro e u1 ⟨rfl, hb⟩
      go_wp2_with fail
      refine (at_below (compare_any a0 a1 _ b0 b1) hb).mono ?_
      clear hb
      rintro e u2 ⟨rfl, hb⟩
      go_wp2_with fail
      refine (at_below (compare_any a1 a2 _ b1 b2) hb).mono ?_
      clear hb
      rintro e u3 ⟨rfl, hb⟩
      go_wp2_with fail
      refine (at_below (compare_any a0 a2 _ b0 b2) hb).mono ?_
      clear hb
      rintro e u4 ⟨rfl, hb⟩
      go_wp2_with fail
      refine (at_below (compare_any a1 a0 _ b1 b0) hb).mono ?_
      clear hb
      rintro e u5 ⟨rfl, hb⟩
      go_wp2_with fail
      refine (at_below (compare_any _ _ _ b0 bd) hb).mono ?_
      clear hb
      rintro e u6 ⟨rfl, hb⟩
      go_wp2_with fail
      go_ret
      exact ⟨rfl, hb⟩
    · have ky : decide (cmpT a1 a2 ≤ 0) = true := by rw [decide_eq_true_eq]; omega
      have kz0 : decide (0 < cmpT a0 a2) = false := by rw [decide_eq_false_iff_not]; have := KT.out (by omega) (by omega); omega
      clear hy0
      have hb : Below w.heap.size w w := Below.refl _ _
      go_enter Try.func4, Try.ntmps4
      go_wp2_with fail
      refine (at_below (known_any _) hb).mono ?_
      clear hb
      rintro e u1 ⟨rfl, hb⟩
      go_wp2_with fail
      refine (at_below (compare_any a0 a1 _ b0 b1) hb).mono ?_
      clear hb
      rintro e u2 ⟨rfl, hb⟩
      go_wp2_with fail
      refine (at_below (compare_any a1 a2 _ b1 b2) hb).mono ?_
      clear hb
      rintro e u3 ⟨rfl, hb⟩
      go_wp2_with fail
      refine (at_below (compare_any a0 a2 _ b0 b2) hb).mono ?_
      clear hb
      rintro e u4 ⟨rfl, hb⟩
      go_wp2_with fail
      refine (at_below (compare_any a1 a0 _ b1 b0) hb).mono ?_
      clear hb
      rintro e u5 ⟨rfl, hb⟩
      go_wp2_with fail
      refine (at_below (compare_any _ _ _ b0 bd) hb).mono ?_
      clear hb
      rintro e u6 ⟨rfl, hb⟩
      go_wp2_with fail
      go_ret
      exact ⟨rfl, hb⟩
  · have kx : cmpT a0 a1 = 1 := hx
    clear hx
    rw [kx] at kr
    have he : (a0.toList == a1.toList) = false := EQF.out (by rw [kx]; decide)
    have hb : Below w.heap.size w w := Below.refl _ _
    go_enter Try.func4, Try.ntmps4
    go_wp2_with fail
    refine (at_below (known_any _) hb).mono ?_
    clear hb
    rintro e u1 ⟨rfl, hb⟩
    go_wp2_with fail
    refine (at_below (compare_any a0 a1 _ b0 b1) hb).mono ?_
    clear hb
    rintro e u2 ⟨rfl, hb⟩
    go_wp2_with fail
    refine (at_below (compare_any a1 a2 _ b1 b2) hb).mono ?_
    clear hb
    rintro e u3 ⟨rfl, hb⟩
    go_wp2_with fail
    refine (at_below (compare_any a0 a2 _ b0 b2) hb).mono ?_
    clear hb
    rintro e u4 ⟨rfl, hb⟩
    go_wp2_with fail
    refine (at_below (compare_any a1 a0 _ b1 b0) hb).mono ?_
    clear hb
    rintro e u5 ⟨rfl, hb⟩
    go_wp2_with fail
    refine (at_below (compare_any _ _ _ b0 bd) hb).mono ?_
    clear hb
    rintro e u6 ⟨rfl, hb⟩
    go_wp2_with fail
    go_ret
    exact ⟨rfl, hb⟩

/-! ### THE ROW's STEP: WRITTEN OUT: LEAVE IT -/
set_option maxRecDepth 100000 in
theorem lifted (os : Os) (started : os.Started) (H : Type) (enc : TypeId × Value → H) :
    ReturnsInHanded {} Try.checked os 4 .any (Rows.topicOrderSpec.pre6 enc Try.prog Try.f4 Rows.topicOrderRow.domain false) (Rows.topicOrderSpec.post enc Try.prog Try.f4 false true false false) := by
  refine returnsInHanded_of_change (C := Try.checked) own started (by kernel_rfl) Try.func4
    (ChangeSpec.witness6 (enc := enc) (C := Try.checked) false ⟨#[], #[.string ByteArray.empty, .string ByteArray.empty, .string ByteArray.empty], []⟩ 8 (by kernel_rfl) (by kernel_rfl) (by kernel_rfl) (by kernel_rfl)) ?_
  intro W base args ds gs before hval0 hW hcnd _
  have hval : ∀ (j : Nat) t v, Try.f4.params[j]? = some t → args[j]? = some v → Value.okWide Try.prog W .any base t v := hval0
  have hW' := hW
  obtain ⟨p, q, hA0, hV, rfl, hfz, hnd⟩ := hW
  have hA : DataW.TrodAll enc Try.prog W 0 (fun _ => true) true Try.f4.params.toList args.toList ds p := hA0
  rw [Try.params4] at hA hval
  obtain ⟨v0, vs0, d0, ds0, p0, q0, hargs, rfl, rfl, h0, r0⟩ := trodAll_cons hA
  obtain ⟨v1, vs1, d1, ds1, p1, q1, rfl, rfl, rfl, h1, r1⟩ := trodAll_cons r0
  obtain ⟨v2, vs2, d2, ds2, p2, q2, rfl, rfl, rfl, h2, r2⟩ := trodAll_cons r1
  obtain ⟨rfl, rfl, rfl⟩ := trodAll_nil r2
  obtain rfl : args = #[v0, v1, v2] := by cases args; simp_all
  obtain ⟨rfl, rfl⟩ := trodVars_none hV
  obtain ⟨a0, rfl, rfl, rfl, w0⟩ := open_string Try.underlying9 (hval 0 9 v0 rfl rfl) h0
  obtain ⟨a1, rfl, rfl, rfl, w1⟩ := open_string Try.underlying9 (hval 1 9 v1 rfl rfl) h1
  obtain ⟨a2, rfl, rfl, rfl, w2⟩ := open_string Try.underlying9 (hval 2 9 v2 rfl rfl) h2
  clear hA0 hval0
  simp only [List.append_nil] at hW'
  refine (walk a0 a1 a2 w0 w1 w2 W).mono fun e W' ⟨he, hg⟩ => ?_
  subst he
  exact ⟨_, rfl, law_post hW' hg (fun _ => (trodAll_cons_mk (shut_bool Try.underlying4 _) trodAll_mk0)) ((trodAll_cons_mk (shut_string Try.underlying9 w0) (trodAll_cons_mk (shut_string Try.underlying9 w1) (trodAll_cons_mk (shut_string Try.underlying9 w2) trodAll_mk0)))) rfl⟩

theorem over : Rows.topicOrderRow.holds Try.pinned (OpenSpec.ofChange Rows.topicOrderSpec) :=
  OpenClaim.holds_of_wide 4 Try.f4 rfl rfl rfl rfl rfl rfl rfl ⟨rfl, rfl, rfl, rfl, rfl⟩ rfl rfl rfl rfl rfl (by kernel_rfl) Try.func4 (by kernel_rfl)
    (of_decide_eq_true (by kernel_rfl)) (by unfold Func.isWrapper; first | (rw [if_pos (by decide +kernel)]; kernel_rfl) | (rw [if_neg (by decide +kernel)]; exact ⟨rfl, rfl⟩))
    (fun os started H enc _ => lifted os started H enc)

/-- ████ THE STATEMENT ████ -/
theorem proved : Rows.TopicOrderSaid :=
  over
#print axioms proved
end Go.Proofs.Ytmjpnpnmhacknaa.topicOrder
