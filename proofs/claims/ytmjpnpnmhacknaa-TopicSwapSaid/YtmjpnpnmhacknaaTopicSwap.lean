/- Proved: crierlaw5.TopicSwap returns true for every three texts and every place. (The frame came from the kit's proof-skeleton.mjs.) -/
import Derived.Test.YtmjpnpnmhacknaaRows
import Derived.Test.YtmjpnpnmhacknaaLawPost
import Derived.Test.YtmjpnpnmhacknaaLwA
import Derived.Test.YtmjpnpnmhacknaaLwP
import Derived.Test.YtmjpnpnmhacknaaLwQ
import Derived.Test.YtmjpnpnmhacknaaLwS
import Derived.WalkKit
import Derived.ProofKit
import Derived.OpenShut
import Derived.ShutString
namespace Go.Proofs.Ytmjpnpnmhacknaa.topicSwap
open Go.Proofs.Tp Go.ChangeShapes Go.WideShapes Go.ChangeAt Go.RowKit
open Go.ChangeMaps (open_string shut_string)
set_option linter.unusedVariables false      -- a walk need not use every 'w<i>' (that an integer argument fits its kind)

theorem str_true {x y : ByteArray} (h : x = y) : (x.toList == y.toList) = true ∧ (x.toList != y.toList) = false := by subst h; simp
theorem str_false {x y : ByteArray} (h : x ≠ y) : (x.toList == y.toList) = false ∧ (x.toList != y.toList) = true := by
  have h0 : (x.toList == y.toList) = false := by
    rw [beq_eq_false_iff_ne, Lib.toList_data, Lib.toList_data]; exact fun e => h (ba_ext e)
  exact ⟨h0, by unfold bne; rw [h0]; rfl⟩
theorem size_pos {t : ByteArray} (h : chk t = 0) : 0 < t.size := by
  have := (chk_zero.1 h).1; omega

theorem at_S {P : Program} {f : FuncId} {args : Array Value} {w : World} {v : Value} {S : World → Prop} (h : Calls P f args w fun e w' => e = .returned v ∧ Below w.heap.size w w')
    (hS : ∀ u u', S u → Below u.heap.size u u' → S u') (hw : S w) : Calls P f args w fun e w' => e = .returned v ∧ S w' := h.mono fun _ _ ⟨he, h⟩ => ⟨he, hS _ _ hw h⟩
theorem at_SL {P : Program} {f : FuncId} {args : Array Value} {w : World} {L : List ByteArray} {E : Nat} {S : World → Prop}
    (h : Calls P f args w fun e w' => ∃ v, e = .returned v ∧ w'.ownsRow (w.heap.size + 1) E 1 v L.length (L.map Value.string) ∧ Below w.heap.size w w')
    (hS : ∀ u u', S u → Below u.heap.size u u' → S u') (hL : 0 < L.length) (hw : S w) :
    Calls P f args w fun e w' => (∃ b off cap, e = .returned (.slice (some ⟨b, off, none⟩) L.length cap) ∧ L.length ≤ cap ∧ cap ≤ 9223372036854775807) ∧ S w' := h.mono fun _ _ ⟨v, he, ho, h⟩ => by
  obtain ⟨b, off, cap, rfl, q1, q2, _⟩ := (StrsAt.of_owns ho).open hL
  exact ⟨⟨b, off, cap, he, q1, q2⟩, hS _ _ hw h⟩
theorem chk_vals {s : ByteArray} (h : chk s ≠ 0) : chk s = 50 ∨ chk s = 51 ∨ chk s = 52 := by
  unfold chk textE at *
  by_cases c1 : s.size = 0
  · simp [c1]
  · by_cases c2 : isText s = true
    · by_cases c3 : sign s = true
      · simp [c1, c2, c3]
      · simp [c1, c2, c3] at h
    · simp [c1, c2]

theorem own : ownKnob Try.prog.godebug = none := by kernel_rfl

set_option maxHeartbeats 6000000 in
set_option maxRecDepth 1000000 in
theorem walk (a0 : ByteArray) (a1 : ByteArray) (a2 : ByteArray) (a3 : Int) (w0 : a0.size ≤ maxLen) (w1 : a1.size ≤ maxLen) (w2 : a2.size ≤ maxLen) (w3 : (Lit.int .i64 a3).wf = true) (w : World) :
    Calls Try.prog 6 #[.string a0, .string a1, .string a2, .int .i64 a3] w fun e w' => e = .returned (.bool true) ∧ Below w.heap.size w w' := by
  unfold maxLen at w0 w1 w2
  have hsmall : ∀ {x : ByteArray}, ¬ x.size ≤ 5000 → (5000 : Int) < (x.size : Int) := fun h => by omega
  by_cases h0 : a0.size ≤ 5000
  case neg =>
    have hI := hsmall h0
    go_enter Try.func6, Try.ntmps6
    go_wp2_with fail
    go_ret
    exact ⟨rfl, Below.refl _ _⟩
  by_cases h1 : a1.size ≤ 5000
  case neg =>
    have hI := hsmall h1
    have hI0 : ¬ ((5000 : Int) < (a0.size : Int)) := by omega
    go_enter Try.func6, Try.ntmps6
    go_wp2_with fail
    go_ret
    exact ⟨rfl, Below.refl _ _⟩
  by_cases h2 : a2.size ≤ 5000
  case neg =>
    have hI := hsmall h2
    have hI0 : ¬ ((5000 : Int) < (a0.size : Int)) := by omega
    have hI1 : ¬ ((5000 : Int) < (a1.size : Int)) := by omega
    go_enter Try.func6, Try.ntmps6
    go_wp2_with fail
    go_ret
    exact ⟨rfl, Below.refl _ _⟩
  have hI0 : ¬ ((5000 : Int) < (a0.size : Int)) := by omega
  have hI1 : ¬ ((5000 : Int) < (a1.size : Int)) := by omega
  have hI2 : ¬ ((5000 : Int) < (a2.size : Int)) := by omega
  have b0 : a0.size ≤ 1000000000 := by omega
  have b1 : a1.size ≤ 1000000000 := by omega
  have b2 : a2.size ≤ 1000000000 := by omega
  clear w0 w1 w2
  have HK := Lib.hid (show -9223372036854775808 ≤ a3 ∧ a3 ≤ 9223372036854775807 from by have := w3; simp [Lit.wf, IntKind.min, IntKind.max, IntKind.bits, IntKind.signed] at this; exact this)
  have L1 := Lib.hid (levels_len a1 b1)
  have L0 := Lib.hid (levels_len a0 b0)
  have L2 := Lib.hid (levels_len a2 b2)
  have hb : Below w.heap.size w w := Below.refl _ _
  go_enter Try.func6, Try.ntmps6
  go_wp2_with fail
  refine (at_below (known_any _) hb).mono ?_
  clear hb
  rintro e u1 ⟨rfl, hb⟩
  go_wp2_with fail
  refine (levels_any a1 _ b1).mono ?_
  rintro e t1 ⟨v1, rfl, hown1, hc1⟩
  obtain ⟨bb1, oo1, cc1, rfl, qa1, qb1, qB1, qc1, qd1, qf1⟩ := owns_open hown1 L1.out.1
  clear hown1
  have hb2 := hb.trans (hc1.mono hb.size)
  have hB1 := Nat.le_trans (Nat.le_succ_of_le hb.size) qB1
  clear hb hc1 qB1
  have hb := hb2
  clear hb2
  go_wp2_with fail
  refine (levels_any a0 _ b0).mono ?_
  rintro e t2 ⟨v2, rfl, hown2, hc2⟩
  obtain ⟨bb2, oo2, cc2, rfl, qa2, qb2, qB2, qc2, qd2, qf2⟩ := owns_open hown2 L0.out.1
  clear hown2 qf2
  have hb2 := hb.trans (hc2.mono hb.size)
  clear hb
  have hb := hb2
  clear hb2
  have HD1 := Lib.hid (fun i x hx => (hc2.cell qc1).trans (qd1 i x hx))
  have HF1 := Lib.hid (fun k => (hc2.frozen (p := ⟨bb1, k, none⟩) qc1).trans (qf1 k))
  have HD2 := Lib.hid qd2
  have hlt1 := Nat.lt_of_lt_of_le qc1 hc2.size
  clear qd1 qf1 hc2 qd2
  obtain ⟨n, hn⟩ : ∃ n, (levels a1).length = n := ⟨_, rfl⟩
  obtain ⟨m, hm⟩ : ∃ m, (levels a0).length = m := ⟨_, rfl⟩
  have HN := Lib.hid hn
  have HM := Lib.hid hm
  have hn0 := L1.out
  have hm0 := L0.out
  rw [hn] at qa1 hn0 ⊢
  rw [hm] at qa2 hm0 ⊢
  clear hn hm
  go_wp2_with fail
  refine (place_any a3 n _ (by omega) (by omega) HK.out.1 HK.out.2).mono ?_
  rintro e u3 ⟨⟨r, rfl, hr⟩, rfl⟩
  have hrn : r < n := by omega
  have hrnI : (r : Int) < (n : Int) := by omega
  by_cases c1 : r < m
  case neg =>
    have c1I : ¬ ((r : Int) < (m : Int)) := by omega
    have c1J : (m : Int) ≤ (r : Int) := by omega
    go_wp2_with fail
    go_quiet (fail)
    go_wp2_with fail
    go_ret
    exact ⟨rfl, below_drewN hb _⟩
  have c1I : (r : Int) < (m : Int) := by omega
  have c1J : ¬ ((m : Int) ≤ (r : Int)) := by omega
  obtain ⟨x, hx⟩ : ∃ x, (levels a1)[r]? = some x := ⟨_, List.getElem?_eq_getElem (by rw [HN.out]; exact hrn)⟩
  obtain ⟨y, hy⟩ : ∃ y, (levels a0)[r]? = some y := ⟨_, List.getElem?_eq_getElem (by rw [HM.out]; exact c1)⟩
  have HX := Lib.hid hx
  have HY := Lib.hid hy
  have hcx := HD1.out r x hx
  have hcy := HD2.out r y hy
  clear hx hy
  have hS1 : ∀ u u' : World, (Below t2.heap.size t2 u ∧ u.cell? ⟨bb1, oo1 + r, none⟩ = some (.string x) ∧ u.cell? ⟨bb2, oo2 + r, none⟩ = some (.string y)) → Below u.heap.size u u' →
      (Below t2.heap.size t2 u' ∧ u'.cell? ⟨bb1, oo1 + r, none⟩ = some (.string x) ∧ u'.cell? ⟨bb2, oo2 + r, none⟩ = some (.string y)) := fun u u' ⟨p1, p2, p3⟩ h =>
    ⟨p1.trans (h.mono p1.size), (h.cell (Nat.lt_of_lt_of_le hlt1 p1.size)).trans p2, (h.cell (Nat.lt_of_lt_of_le qc2 p1.size)).trans p3⟩
  by_cases c2 : x = y
  case pos =>
    obtain ⟨e1, e2⟩ := str_true c2
    clear c2
    go_wp2_with fail
    go_quiet (fail)
    go_wp2_with fail
    go_ret
    exact ⟨rfl, below_drewN hb _⟩
  obtain ⟨e1, e2⟩ := str_false c2
  by_cases c3 : a2 = y
  case pos =>
    obtain ⟨e3, e4⟩ := str_true c3
    clear c2 c3
    go_wp2_with fail
    go_quiet (fail)
    go_wp2_with fail
    go_ret
    exact ⟨rfl, below_drewN hb _⟩
  obtain ⟨e3, e4⟩ := str_false c3
  have HC2 := Lib.hid c2
  have HC3 := Lib.hid c3
  clear c2 c3
  have hnn : (levels a1).length = n := HN.out
  have hsz : (joinT ((levels a1).set r a2)).size ≤ 1000000000 := by
    have := size_set (levels a1) r a2
    rw [joinT_levels] at this; omega
  have HNN := Lib.hid hnn
  clear hnn
  go_wp2_with fail
  go_still_tail 23, (by kernel_rfl)
  change wpList _ _ _ _ _ t2.drew
  have hb2 : Below t2.heap.size t2 t2.drew := Below.drew (Below.refl _ _)
  generalize t2.drew = w2 at hb2 ⊢
  go_wp2_with fail
  refine (levels_any a2 _ b2).mono ?_
  rintro e u5 ⟨v5, rfl, hown5, hc5⟩
  obtain ⟨bb5, oo5, cc5, rfl, q51, q52, q53, q54⟩ := (StrsAt.of_owns hown5).open L2.out.1
  clear hown5 q54
  have hb5 := hb2.trans (hc5.mono hb2.size)
  clear hb2 hc5
  by_cases c4 : (levels a2).length = 1
  case neg =>
    have k4 : (((levels a2).length : Int) == 1) = false := by rw [beq_eq_false_iff_ne]; omega
    have k4n : (((levels a2).length : Int) != 1) = true := by unfold bne; rw [k4]; rfl
    clear c4
    go_wp2_with fail
    go_ret
    exact ⟨rfl, hb.trans (hb5.mono hb.size)⟩
  have k4 : (((levels a2).length : Int) == 1) = true := by rw [c4]; rfl
  have k4n : (((levels a2).length : Int) != 1) = false := by unfold bne; rw [k4]; rfl
  have HC4 := Lib.hid c4
  clear c4
  go_wp2_with fail
  refine (at_below (check_any a1 _ b1) hb5).mono ?_
  clear hb5
  rintro e u6 ⟨rfl, hb6⟩
  by_cases c5 : chk a1 = 0
  case neg =>
    have k5 : (chk a1 == 0) = false := by rw [beq_eq_false_iff_ne]; exact c5
    have k5n : (chk a1 != 0) = true := by unfold bne; rw [k5]; rfl
    clear c5
    go_wp2_with fail
    go_ret
    exact ⟨rfl, hb.trans (hb6.mono hb.size)⟩
  have k5 : (chk a1 == 0) = true := by rw [c5]; rfl
  have k5n : (chk a1 != 0) = false := by rw [c5]; rfl
  have HC5 := Lib.hid c5
  clear c5
  have hsx := (hb6.cell hlt1).trans hcx
  have hfx := (hb6.frozen (p := ⟨bb1, oo1 + r, none⟩) hlt1).trans (HF1.out _)
  have SA : StrsAt (u6.setCell ⟨bb1, oo1 + r, none⟩ (.string a2)) (.slice (some ⟨bb1, oo1, none⟩) n cc1) ((levels a1).set r a2) := by
    have := set_at (w := u6) (b := bb1) (off := oo1) (cap := cc1) (r := r) (L := levels a1) (y := a2) (by rw [HNN.out]; exact hrn) (by rw [HNN.out]; exact qa1) qb1 (fun i x hx => (hb6.cell hlt1).trans (HD1.out i x hx))
    rw [HNN.out] at this; exact this
  have hb7 : Below w.heap.size w (u6.setCell ⟨bb1, oo1 + r, none⟩ (.string a2)) := Below.setCell (hb.trans (hb6.mono hb.size)) hB1 _
  have HSA := Lib.hid SA
  have HB7 := Lib.hid hb7
  clear SA hb7 hb6 hb hS1 HF1 HD1 HD2 hcx hcy
  go_wp2_with fail
  generalize u6.setCell ⟨bb1, oo1 + r, none⟩ (.string a2) = u7 at HSA HB7 ⊢
  refine (at_below (join_any ((levels a1).set r a2) _ _ HSA.out (by rw [List.length_set, HNN.out]; omega) (by rw [List.length_set, HNN.out]; omega) hsz) HB7.out).mono ?_
  clear HSA HB7
  rintro e u8 ⟨rfl, hb8⟩
  have HMS := Lib.hid (fun h2 h3 => match_swap (f := a0) (t := a1) (level := a2) HX.out HY.out (fun e => HC2.out e.symm) (fun e => HC3.out e.symm) HC4.out HC5.out h2 h3)
  generalize joinT ((levels a1).set r a2) = U at hsz HMS ⊢
  have cU : ∀ d os, Calls Try.prog 15 #[.string U] (Go.Sort.grow (redrawn u8 d) os) fun e w'' => e = .returned (.int .i64 (chk U)) ∧ ∃ p : Regrown, w'' = Go.Sort.grow (redrawn u8 p.d) p.os := fun d os => Calls.regrown_of (check_any U _ hsz)
  by_cases c6 : chk U = 0
  case neg =>
    have k6 : (chk U == 0) = false := by rw [beq_eq_false_iff_ne]; exact c6
    have k6n : (chk U != 0) = true := by unfold bne; rw [k6]; rfl
    clear c6
    go_wp2_with fail
    refine wp_region_quiet_below (by kernel_rfl) (by kernel_rfl) ?_
    repeat (first | go_big_quiet_step (exact cU _ _) | quiet_step (exact cU _ _))
    refine wpQuiet_nil ?_
    intro _ hw'
    obtain ⟨⟨dq, osq⟩, hw''⟩ := hw'
    subst hw''
    have hb9 := hb8.trans ((below_regrown u8 dq osq).mono hb8.size)
    generalize Go.Sort.grow (redrawn u8 dq) osq = u9 at hb9 ⊢
    go_wp2_with fail
    go_ret
    exact ⟨rfl, hb9⟩
  have HC6 := Lib.hid c6
  have hU := chk_size c6
  have hT := chk_size HC5.out
  have hUI : (0 : Int) < (U.size : Int) := by omega
  have hTI : (0 : Int) < (a1.size : Int) := by omega
  have HHU := Lib.hid (head_eq U hU)
  have HHT := Lib.hid (head_eq a1 hT)
  have k6 : (chk U == 0) = true := by rw [c6]; rfl
  have k6n : (chk U != 0) = false := by rw [c6]; rfl
  clear c6
  by_cases cU36 : U[0].toNat = 36
  · have fU : ((U[0].toNat : Int) == 36) = true := by rw [cU36]; rfl
    by_cases cT : a1[0].toNat = 36
    · have fT : ((a1[0].toNat : Int) == 36) = true := by rw [cT]; rfl
      have HM1 := Lib.hid (HMS.out HC6.out (by rw [HHU.out, HHT.out]; simp only [cU36, cT]))
      clear cU36 cT
      go_wp2_with fail
      refine wp_region_quiet_below (by kernel_rfl) (by kernel_rfl) ?_
      repeat (first | go_big_quiet_step (exact cU _ _) | quiet_step (exact cU _ _))
      refine wpQuiet_nil ?_
      intro _ hw'
      obtain ⟨⟨dq, osq⟩, hw''⟩ := hw'
      subst hw''
      have hb9 := hb8.trans ((below_regrown u8 dq osq).mono hb8.size)
      generalize Go.Sort.grow (redrawn u8 dq) osq = u9 at hb9 ⊢
      go_wp2_with fail
      refine (at_below (match_any a0 a1 _ b0 b1) hb9).mono ?_
      clear hb9
      rintro e u10 ⟨rfl, hb9⟩
      go_wp2_with fail
      refine (at_below (match_any a0 U _ b0 hsz) hb9).mono ?_
      clear hb9
      rintro e u11 ⟨rfl, hb9⟩
      rw [HM1.out]
      go_wp2_with fail
      go_ret
      exact ⟨rfl, hb9⟩
    · have fT : ((a1[0].toNat : Int) == 36) = false := by rw [beq_eq_false_iff_ne]; omega
      clear cU36 cT
      go_wp2_with fail
      refine wp_region_quiet_below (by kernel_rfl) (by kernel_rfl) ?_
      repeat (first | go_big_quiet_step (exact cU _ _) | quiet_step (exact cU _ _))
      refine wpQuiet_nil ?_
      intro _ hw'
      obtain ⟨⟨dq, osq⟩, hw''⟩ := hw'
      subst hw''
      have hb9 := hb8.trans ((below_regrown u8 dq osq).mono hb8.size)
      generalize Go.Sort.grow (redrawn u8 dq) osq = u9 at hb9 ⊢
      go_wp2_with fail
      go_ret
      exact ⟨rfl, hb9⟩
  · have fU : ((U[0].toNat : Int) == 36) = false := by rw [beq_eq_false_iff_ne]; omega
    by_cases cT : a1[0].toNat = 36
    · have fT : ((a1[0].toNat : Int) == 36) = true := by rw [cT]; rfl
      clear cU36 cT
      go_wp2_with fail
      refine wp_region_quiet_below (by kernel_rfl) (by kernel_rfl) ?_
      repeat (first | go_big_quiet_step (exact cU _ _) | quiet_step (exact cU _ _))
      refine wpQuiet_nil ?_
      intro _ hw'
      obtain ⟨⟨dq, osq⟩, hw''⟩ := hw'
      subst hw''
      have hb9 := hb8.trans ((below_regrown u8 dq osq).mono hb8.size)
      generalize Go.Sort.grow (redrawn u8 dq) osq = u9 at hb9 ⊢
      go_wp2_with fail
      go_ret
      exact ⟨rfl, hb9⟩
    · have fT : ((a1[0].toNat : Int) == 36) = false := by rw [beq_eq_false_iff_ne]; omega
      have HM1 := Lib.hid (HMS.out HC6.out (by rw [HHU.out, HHT.out]; simp only [cU36, cT]))
      clear cU36 cT
      go_wp2_with fail
      refine wp_region_quiet_below (by kernel_rfl) (by kernel_rfl) ?_
      repeat (first | go_big_quiet_step (exact cU _ _) | quiet_step (exact cU _ _))
      refine wpQuiet_nil ?_
      intro _ hw'
      obtain ⟨⟨dq, osq⟩, hw''⟩ := hw'
      subst hw''
      have hb9 := hb8.trans ((below_regrown u8 dq osq).mono hb8.size)
      generalize Go.Sort.grow (redrawn u8 dq) osq = u9 at hb9 ⊢
      go_wp2_with fail
      refine (at_below (match_any a0 a1 _ b0 b1) hb9).mono ?_
      clear hb9
      rintro e u10 ⟨rfl, hb9⟩
      go_wp2_with fail
      refine (at_below (match_any a0 U _ b0 hsz) hb9).mono ?_
      clear hb9
      rintro e u11 ⟨rfl, hb9⟩
      rw [HM1.out]
      go_wp2_with fail
      go_ret
      exact ⟨rfl, hb9⟩

/-! ### THE ROW's STEP: WRITTEN OUT: LEAVE IT -/
set_option maxRecDepth 100000 in
theorem lifted (os : Os) (started : os.Started) (H : Type) (enc : TypeId × Value → H) :
    ReturnsInHanded {} Try.checked os 6 .any (Rows.topicSwapSpec.pre6 enc Try.prog Try.f6 Rows.topicSwapRow.domain false) (Rows.topicSwapSpec.post enc Try.prog Try.f6 false true false false) := by
  refine returnsInHanded_of_change (C := Try.checked) own started (by kernel_rfl) Try.func6
    (ChangeSpec.witness6 (enc := enc) (C := Try.checked) false ⟨#[], #[.string ByteArray.empty, .string ByteArray.empty, .string ByteArray.empty, .int .i64 0], []⟩ 8 (by kernel_rfl) (by kernel_rfl) (by kernel_rfl) (by kernel_rfl)) ?_
  intro W base args ds gs before hval0 hW hcnd _
  have hval : ∀ (j : Nat) t v, Try.f6.params[j]? = some t → args[j]? = some v → Value.okWide Try.prog W .any base t v := hval0
  have hW' := hW
  obtain ⟨p, q, hA0, hV, rfl, hfz, hnd⟩ := hW
  have hA : DataW.TrodAll enc Try.prog W 0 (fun _ => true) true Try.f6.params.toList args.toList ds p := hA0
  rw [Try.params6] at hA hval
  obtain ⟨v0, vs0, d0, ds0, p0, q0, hargs, rfl, rfl, h0, r0⟩ := trodAll_cons hA
  obtain ⟨v1, vs1, d1, ds1, p1, q1, rfl, rfl, rfl, h1, r1⟩ := trodAll_cons r0
  obtain ⟨v2, vs2, d2, ds2, p2, q2, rfl, rfl, rfl, h2, r2⟩ := trodAll_cons r1
  obtain ⟨v3, vs3, d3, ds3, p3, q3, rfl, rfl, rfl, h3, r3⟩ := trodAll_cons r2
  obtain ⟨rfl, rfl, rfl⟩ := trodAll_nil r3
  obtain rfl : args = #[v0, v1, v2, v3] := by cases args; simp_all
  obtain ⟨rfl, rfl⟩ := trodVars_none hV
  obtain ⟨a0, rfl, rfl, rfl, w0⟩ := open_string Try.underlying9 (hval 0 9 v0 rfl rfl) h0
  obtain ⟨a1, rfl, rfl, rfl, w1⟩ := open_string Try.underlying9 (hval 1 9 v1 rfl rfl) h1
  obtain ⟨a2, rfl, rfl, rfl, w2⟩ := open_string Try.underlying9 (hval 2 9 v2 rfl rfl) h2
  obtain ⟨a3, rfl, rfl, rfl, w3⟩ := open_int Try.underlying3 (hval 3 3 v3 rfl rfl) h3
  clear hA0 hval0
  simp only [List.append_nil] at hW'
  refine (walk a0 a1 a2 a3 w0 w1 w2 w3 W).mono fun e W' ⟨he, hg⟩ => ?_
  subst he
  exact ⟨_, rfl, law_post hW' hg (fun _ => (trodAll_cons_mk (shut_bool Try.underlying4 _) trodAll_mk0)) ((trodAll_cons_mk (shut_string Try.underlying9 w0) (trodAll_cons_mk (shut_string Try.underlying9 w1) (trodAll_cons_mk (shut_string Try.underlying9 w2) (trodAll_cons_mk (shut_int Try.underlying3 w3) trodAll_mk0))))) rfl⟩

theorem over : Rows.topicSwapRow.holds Try.pinned (OpenSpec.ofChange Rows.topicSwapSpec) :=
  OpenClaim.holds_of_wide 6 Try.f6 rfl rfl rfl rfl rfl rfl rfl ⟨rfl, rfl, rfl, rfl, rfl⟩ rfl rfl rfl rfl rfl (by kernel_rfl) Try.func6 (by kernel_rfl)
    (of_decide_eq_true (by kernel_rfl)) (by unfold Func.isWrapper; first | (rw [if_pos (by decide +kernel)]; kernel_rfl) | (rw [if_neg (by decide +kernel)]; exact ⟨rfl, rfl⟩))
    (fun os started H enc _ => lifted os started H enc)

/-- ████ THE STATEMENT ████ -/
theorem proved : Rows.TopicSwapSaid :=
  over
#print axioms proved
end Go.Proofs.Ytmjpnpnmhacknaa.topicSwap
