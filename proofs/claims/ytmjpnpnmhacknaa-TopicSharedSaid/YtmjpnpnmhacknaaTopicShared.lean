/- Proved: crierlaw5.TopicShared returns true for every three texts. (The frame came from the kit's proof-skeleton.mjs.) -/
import Derived.Test.YtmjpnpnmhacknaaRows
import Derived.Test.YtmjpnpnmhacknaaLawPost
import Derived.Test.YtmjpnpnmhacknaaLwP
import Derived.WalkKit
import Derived.ProofKit
import Derived.OpenShut
import Derived.ShutString
namespace Go.Proofs.Ytmjpnpnmhacknaa.topicShared
open Go.Proofs.Tp Go.ChangeShapes Go.WideShapes Go.ChangeAt Go.RowKit
open Go.ChangeMaps (open_string shut_string)
set_option linter.unusedVariables false      -- a walk need not use every 'w<i>' (that an integer argument fits its kind)

theorem own : ownKnob Try.prog.godebug = none := by kernel_rfl

set_option maxHeartbeats 2000000 in
set_option maxRecDepth 1000000 in
theorem walk (a0 : ByteArray) (a1 : ByteArray) (a2 : ByteArray) (w0 : a0.size ≤ maxLen) (w1 : a1.size ≤ maxLen) (w2 : a2.size ≤ maxLen) (w : World) :
    Calls Try.prog 7 #[.string a0, .string a1, .string a2] w fun e w' => e = .returned (.bool true) ∧ Below w.heap.size w w' := by
  unfold maxLen at w0 w1 w2
  by_cases h0 : a0.size ≤ 5000
  case neg =>
    have hI : (5000 : Int) < (a0.size : Int) := by omega
    go_enter Try.func7, Try.ntmps7
    go_wp2_with fail
    go_ret
    exact ⟨rfl, Below.refl _ _⟩
  by_cases h1 : a1.size ≤ 5000
  case neg =>
    have hI : (5000 : Int) < (a1.size : Int) := by omega
    have hI0 : ¬ ((5000 : Int) < (a0.size : Int)) := by omega
    go_enter Try.func7, Try.ntmps7
    go_wp2_with fail
    go_ret
    exact ⟨rfl, Below.refl _ _⟩
  by_cases h2 : a2.size ≤ 5000
  case neg =>
    have hI : (5000 : Int) < (a2.size : Int) := by omega
    have hI0 : ¬ ((5000 : Int) < (a0.size : Int)) := by omega
    have hI1 : ¬ ((5000 : Int) < (a1.size : Int)) := by omega
    go_enter Try.func7, Try.ntmps7
    go_wp2_with fail
    go_ret
    exact ⟨rfl, Below.refl _ _⟩
  have hI0 : ¬ ((5000 : Int) < (a0.size : Int)) := by omega
  have hI1 : ¬ ((5000 : Int) < (a1.size : Int)) := by omega
  have hI2 : ¬ ((5000 : Int) < (a2.size : Int)) := by omega
  have b0 : a0.size ≤ 1000000000 := by omega
  have b1 : a1.size ≤ 1000000000 := by omega
  have b2 : a2.size ≤ 1000000000 := by omega
  clear w0 w1 w2
  cases hsh : shared a0 with
  | none =>
    have HS := Lib.hid (sharedV_none hsh)
    clear hsh
    have hb : Below w.heap.size w w := Below.refl _ _
    go_enter Try.func7, Try.ntmps7
    go_wp2_with fail
    refine (at_below (known_any _) hb).mono ?_
    clear hb
    rintro e u1 ⟨rfl, hb⟩
    go_wp2_with fail
    refine (at_below (shared_any a0 _ b0) hb).mono ?_
    clear hb
    rintro e u2 ⟨rfl, hb⟩
    rw [HS.out]
    go_wp2_with fail
    go_ret
    exact ⟨rfl, hb⟩
  | some p =>
    obtain ⟨g, i⟩ := p
    have HS := Lib.hid (sharedV_some hsh)
    obtain ⟨p1, p2, p3, p4, p5, p6, p7, p8, x, r, p9, p10⟩ := shared_parts hsh
    have hm : matchT a0 a1 = false := matchT_shared hsh
    have k0 : (a0.toList == (⟨#[36, 115, 104, 97, 114, 101, 47]⟩ ++ g ++ ⟨#[47]⟩ ++ i : ByteArray).toList) = true := by rw [beq_iff_eq]; exact congrArg ByteArray.toList p1
    have k0n : (a0.toList != (⟨#[36, 115, 104, 97, 114, 101, 47]⟩ ++ g ++ ⟨#[47]⟩ ++ i : ByteArray).toList) = false := by unfold bne; rw [k0]; rfl
    have kg := isEmpty_no g p2
    have kf : (chkF a0 != 0) = false := by rw [p4]; rfl
    have ki : (chkF i != 0) = false := by rw [p5]; rfl
    have gs : g.size ≤ 5000 := by omega
    have is : i.size ≤ 5000 := by omega
    have bg : g.size ≤ 1000000000 := by omega
    have bi : i.size ≤ 1000000000 := by omega
    have h3 : ¬ (((levels a0).length : Int) < 3) := by omega
    have hsz1 : (⟨#[36, 115, 104, 97, 114, 101, 47]⟩ : ByteArray).size = 7 := rfl
    have hsz2 : (⟨#[47]⟩ : ByteArray).size = 1 := rfl
    have hso : (⟨#[36, 115, 104, 97, 114, 101, 47]⟩ ++ a2 ++ ⟨#[47]⟩ ++ i : ByteArray).size ≤ 1000000000 := by
      rw [ByteArray.size_append, ByteArray.size_append, ByteArray.size_append, hsz1, hsz2]; omega
    have HG1 := Lib.hid p3
    have HOT := Lib.hid (fun h1 h2 h3 => shared_other p9 p10 p5 (group := a2) h1 h2 h3)
    obtain ⟨n0, hn0⟩ : ∃ n, (levels a0).length = n := ⟨_, rfl⟩
    rw [hn0] at h3
    have HN0 := Lib.hid hn0
    clear p1 p2 p3 p4 p5 p6 p7 p8 p9 p10 hsh hn0 h0 h1 h2
    by_cases c1 : (levels a2).length = 1
    · have k1 : (((levels a2).length : Int) == 1) = true := by rw [c1]; rfl
      by_cases c2 : chk a2 = 0
      · have k2 : (chk a2 == 0) = true := by rw [c2]; rfl
        by_cases c3 : chkF (⟨#[36, 115, 104, 97, 114, 101, 47]⟩ ++ a2 ++ ⟨#[47]⟩ ++ i) = 0
        · have k3 : (chkF (⟨#[36, 115, 104, 97, 114, 101, 47]⟩ ++ a2 ++ ⟨#[47]⟩ ++ i) == 0) = true := by rw [c3]; rfl
          have HO := Lib.hid (sharedV_some (HOT.out c1 c2 c3))
          clear c1 c2 c3
          have hb : Below w.heap.size w w := Below.refl _ _
          go_enter Try.func7, Try.ntmps7
          go_wp2_with fail
          refine (at_below (known_any _) hb).mono ?_
          clear hb
          rintro e u1 ⟨rfl, hb⟩
          go_wp2_with fail
          refine (at_below (shared_any a0 _ b0) hb).mono ?_
          clear hb
          rintro e u2 ⟨rfl, hb⟩
          rw [HS.out]
          go_wp2_with fail
          refine (levels_any a0 _ b0).mono ?_
          rintro e t3 ⟨v3, rfl, hown3, hc3⟩
          obtain ⟨bb3, oo3, cc3, rfl, qa3, qb3, qc3, qd3⟩ := (StrsAt.of_owns hown3).open (levels_len a0 b0).1
          have hb2 := hb.trans (hc3.mono hb.size)
          clear hb hown3 qd3
          have hb := hb2
          clear hb2 hc3
          rw [HN0.out]
          go_wp2_with fail
          refine (levels_any g _ bg).mono ?_
          rintro e t4 ⟨v4, rfl, hown4, hc4⟩
          obtain ⟨bb4, oo4, cc4, rfl, qa4, qb4, qc4, qd4⟩ := (StrsAt.of_owns hown4).open (levels_len g bg).1
          have hb2 := hb.trans (hc4.mono hb.size)
          clear hb hown4 qd4
          have hb := hb2
          clear hb2 hc4
          rw [HG1.out]
          go_wp2_with fail
          refine (at_below (checkFilter_any a0 _ b0) hb).mono ?_
          clear hb
          rintro e u5 ⟨rfl, hb⟩
          go_wp2_with fail
          refine (at_below (checkFilter_any i _ bi) hb).mono ?_
          clear hb
          rintro e u6 ⟨rfl, hb⟩
          go_wp2_with fail
          refine (at_below (match_any a0 a1 _ b0 b1) hb).mono ?_
          clear hb
          rintro e u7 ⟨rfl, hb⟩
          go_wp2_with fail
          refine (at_below (shared_any _ _ hso) hb).mono ?_
          clear hb
          rintro e u8 ⟨rfl, hb⟩
          erw [HO.out]
          go_wp2_with fail
          refine (levels_any a2 _ b2).mono ?_
          rintro e t9 ⟨v9, rfl, hown9, hc9⟩
          obtain ⟨bb9, oo9, cc9, rfl, qa9, qb9, qc9, qd9⟩ := (StrsAt.of_owns hown9).open (levels_len a2 b2).1
          have hb2 := hb.trans (hc9.mono hb.size)
          clear hb hown9 qd9
          have hb := hb2
          clear hb2 hc9
          go_wp2_with fail
          refine (at_below (check_any a2 _ b2) hb).mono ?_
          clear hb
          rintro e u10 ⟨rfl, hb⟩
          go_wp2_with fail
          refine (at_below (checkFilter_any _ _ hso) hb).mono ?_
          clear hb
          rintro e u11 ⟨rfl, hb⟩
          go_wp2_with fail
          go_ret
          exact ⟨rfl, hb⟩
        · have k3 : (chkF (⟨#[36, 115, 104, 97, 114, 101, 47]⟩ ++ a2 ++ ⟨#[47]⟩ ++ i) == 0) = false := by rw [beq_eq_false_iff_ne]; exact c3
          clear c1 c2 c3
          obtain ⟨sx, sy, sb, hsv⟩ := sharedV_form (⟨#[36, 115, 104, 97, 114, 101, 47]⟩ ++ a2 ++ ⟨#[47]⟩ ++ i)
          have HO := Lib.hid hsv
          clear hsv
          have hb : Below w.heap.size w w := Below.refl _ _
          go_enter Try.func7, Try.ntmps7
          go_wp2_with fail
          refine (at_below (known_any _) hb).mono ?_
          clear hb
          rintro e u1 ⟨rfl, hb⟩
          go_wp2_with fail
          refine (at_below (shared_any a0 _ b0) hb).mono ?_
          clear hb
          rintro e u2 ⟨rfl, hb⟩
          rw [HS.out]
          go_wp2_with fail
          refine (levels_any a0 _ b0).mono ?_
          rintro e t3 ⟨v3, rfl, hown3, hc3⟩
          obtain ⟨bb3, oo3, cc3, rfl, qa3, qb3, qc3, qd3⟩ := (StrsAt.of_owns hown3).open (levels_len a0 b0).1
          have hb2 := hb.trans (hc3.mono hb.size)
          clear hb hown3 qd3
          have hb := hb2
          clear hb2 hc3
          rw [HN0.out]
          go_wp2_with fail
          refine (levels_any g _ bg).mono ?_
          rintro e t4 ⟨v4, rfl, hown4, hc4⟩
          obtain ⟨bb4, oo4, cc4, rfl, qa4, qb4, qc4, qd4⟩ := (StrsAt.of_owns hown4).open (levels_len g bg).1
          have hb2 := hb.trans (hc4.mono hb.size)
          clear hb hown4 qd4
          have hb := hb2
          clear hb2 hc4
          rw [HG1.out]
          go_wp2_with fail
          refine (at_below (checkFilter_any a0 _ b0) hb).mono ?_
          clear hb
          rintro e u5 ⟨rfl, hb⟩
          go_wp2_with fail
          refine (at_below (checkFilter_any i _ bi) hb).mono ?_
          clear hb
          rintro e u6 ⟨rfl, hb⟩
          go_wp2_with fail
          refine (at_below (match_any a0 a1 _ b0 b1) hb).mono ?_
          clear hb
          rintro e u7 ⟨rfl, hb⟩
          go_wp2_with fail
          refine (at_below (shared_any _ _ hso) hb).mono ?_
          clear hb
          rintro e u8 ⟨rfl, hb⟩
          erw [HO.out]
          go_wp2_with fail
          refine (levels_any a2 _ b2).mono ?_
          rintro e t12 ⟨v12, rfl, hown12, hc12⟩
          obtain ⟨bb12, oo12, cc12, rfl, qa12, qb12, qc12, qd12⟩ := (StrsAt.of_owns hown12).open (levels_len a2 b2).1
          have hb2 := hb.trans (hc12.mono hb.size)
          clear hb hown12 qd12
          have hb := hb2
          clear hb2 hc12
          go_wp2_with fail
          refine (at_below (check_any a2 _ b2) hb).mono ?_
          clear hb
          rintro e u13 ⟨rfl, hb⟩
          go_wp2_with fail
          refine (at_below (checkFilter_any _ _ hso) hb).mono ?_
          clear hb
          rintro e u14 ⟨rfl, hb⟩
          go_wp2_with fail
          go_ret
          exact ⟨rfl, hb⟩
      · have k2 : (chk a2 == 0) = false := by rw [beq_eq_false_iff_ne]; exact c2
        clear c1 c2
        obtain ⟨sx, sy, sb, hsv⟩ := sharedV_form (⟨#[36, 115, 104, 97, 114, 101, 47]⟩ ++ a2 ++ ⟨#[47]⟩ ++ i)
        have HO := Lib.hid hsv
        clear hsv
        have hb : Below w.heap.size w w := Below.refl _ _
        go_enter Try.func7, Try.ntmps7
        go_wp2_with fail
        refine (at_below (known_any _) hb).mono ?_
        clear hb
        rintro e u1 ⟨rfl, hb⟩
        go_wp2_with fail
        refine (at_below (shared_any a0 _ b0) hb).mono ?_
        clear hb
        rintro e u2 ⟨rfl, hb⟩
        rw [HS.out]
        go_wp2_with fail
        refine (levels_any a0 _ b0).mono ?_
        rintro e t3 ⟨v3, rfl, hown3, hc3⟩
        obtain ⟨bb3, oo3, cc3, rfl, qa3, qb3, qc3, qd3⟩ := (StrsAt.of_owns hown3).open (levels_len a0 b0).1
        have hb2 := hb.trans (hc3.mono hb.size)
        clear hb hown3 qd3
        have hb := hb2
        clear hb2 hc3
        rw [HN0.out]
        go_wp2_with fail
        refine (levels_any g _ bg).mono ?_
        rintro e t4 ⟨v4, rfl, hown4, hc4⟩
        obtain ⟨bb4, oo4, cc4, rfl, qa4, qb4, qc4, qd4⟩ := (StrsAt.of_owns hown4).open (levels_len g bg).1
        have hb2 := hb.trans (hc4.mono hb.size)
        clear hb hown4 qd4
        have hb := hb2
        clear hb2 hc4
        rw [HG1.out]
        go_wp2_with fail
        refine (at_below (checkFilter_any a0 _ b0) hb).mono ?_
        clear hb
        rintro e u5 ⟨rfl, hb⟩
        go_wp2_with fail
        refine (at_below (checkFilter_any i _ bi) hb).mono ?_
        clear hb
        rintro e u6 ⟨rfl, hb⟩
        go_wp2_with fail
        refine (at_below (match_any a0 a1 _ b0 b1) hb).mono ?_
        clear hb
        rintro e u7 ⟨rfl, hb⟩
        go_wp2_with fail
        refine (at_below (shared_any _ _ hso) hb).mono ?_
        clear hb
        rintro e u8 ⟨rfl, hb⟩
        erw [HO.out]
        go_wp2_with fail
        refine (levels_any a2 _ b2).mono ?_
        rintro e t15 ⟨v15, rfl, hown15, hc15⟩
        obtain ⟨bb15, oo15, cc15, rfl, qa15, qb15, qc15, qd15⟩ := (StrsAt.of_owns hown15).open (levels_len a2 b2).1
        have hb2 := hb.trans (hc15.mono hb.size)
        clear hb hown15 qd15
        have hb := hb2
        clear hb2 hc15
        go_wp2_with fail
        refine (at_below (check_any a2 _ b2) hb).mono ?_
        clear hb
        rintro e u16 ⟨rfl, hb⟩
        go_wp2_with fail
        go_ret
        exact ⟨rfl, hb⟩
    · have k1 : (((levels a2).length : Int) == 1) = false := by rw [beq_eq_false_iff_ne]; omega
      clear c1
      obtain ⟨sx, sy, sb, hsv⟩ := sharedV_form (⟨#[36, 115, 104, 97, 114, 101, 47]⟩ ++ a2 ++ ⟨#[47]⟩ ++ i)
      have HO := Lib.hid hsv
      clear hsv
      have hb : Below w.heap.size w w := Below.refl _ _
      go_enter Try.func7, Try.ntmps7
      go_wp2_with fail
      refine (at_below (known_any _) hb).mono ?_
      clear hb
      rintro e u1 ⟨rfl, hb⟩
      go_wp2_with fail
      refine (at_below (shared_any a0 _ b0) hb).mono ?_
      clear hb
      rintro e u2 ⟨rfl, hb⟩
      rw [HS.out]
      go_wp2_with fail
      refine (levels_any a0 _ b0).mono ?_
      rintro e t3 ⟨v3, rfl, hown3, hc3⟩
      obtain ⟨bb3, oo3, cc3, rfl, qa3, qb3, qc3, qd3⟩ := (StrsAt.of_owns hown3).open (levels_len a0 b0).1
      have hb2 := hb.trans (hc3.mono hb.size)
      clear hb hown3 qd3
      have hb := hb2
      clear hb2 hc3
      rw [HN0.out]
      go_wp2_with fail
      refine (levels_any g _ bg).mono ?_
      rintro e t4 ⟨v4, rfl, hown4, hc4⟩
      obtain ⟨bb4, oo4, cc4, rfl, qa4, qb4, qc4, qd4⟩ := (StrsAt.of_owns hown4).open (levels_len g bg).1
      have hb2 := hb.trans (hc4.mono hb.size)
      clear hb hown4 qd4
      have hb := hb2
      clear hb2 hc4
      rw [HG1.out]
      go_wp2_with fail
      refine (at_below (checkFilter_any a0 _ b0) hb).mono ?_
      clear hb
      rintro e u5 ⟨rfl, hb⟩
      go_wp2_with fail
      refine (at_below (checkFilter_any i _ bi) hb).mono ?_
      clear hb
      rintro e u6 ⟨rfl, hb⟩
      go_wp2_with fail
      refine (at_below (match_any a0 a1 _ b0 b1) hb).mono ?_
      clear hb
      rintro e u7 ⟨rfl, hb⟩
      go_wp2_with fail
      refine (at_below (shared_any _ _ hso) hb).mono ?_
      clear hb
      rintro e u8 ⟨rfl, hb⟩
      erw [HO.out]
      go_wp2_with fail
      refine (levels_any a2 _ b2).mono ?_
      rintro e t17 ⟨v17, rfl, hown17, hc17⟩
      obtain ⟨bb17, oo17, cc17, rfl, qa17, qb17, qc17, qd17⟩ := (StrsAt.of_owns hown17).open (levels_len a2 b2).1
      have hb2 := hb.trans (hc17.mono hb.size)
      clear hb hown17 qd17
      have hb := hb2
      clear hb2 hc17
      go_wp2_with fail
      go_ret
      exact ⟨rfl, hb⟩

/-! ### THE ROW's STEP: WRITTEN OUT: LEAVE IT -/
set_option maxRecDepth 100000 in
theorem lifted (os : Os) (started : os.Started) (H : Type) (enc : TypeId × Value → H) :
    ReturnsInHanded {} Try.checked os 7 .any (Rows.topicSharedSpec.pre6 enc Try.prog Try.f7 Rows.topicSharedRow.domain false) (Rows.topicSharedSpec.post enc Try.prog Try.f7 false true false false) := by
  refine returnsInHanded_of_change (C := Try.checked) own started (by kernel_rfl) Try.func7
    (ChangeSpec.witness6 (enc := enc) (C := Try.checked) false ⟨#[], #[.string ByteArray.empty, .string ByteArray.empty, .string ByteArray.empty], []⟩ 8 (by kernel_rfl) (by kernel_rfl) (by kernel_rfl) (by kernel_rfl)) ?_
  intro W base args ds gs before hval0 hW hcnd _
  have hval : ∀ (j : Nat) t v, Try.f7.params[j]? = some t → args[j]? = some v → Value.okWide Try.prog W .any base t v := hval0
  have hW' := hW
  obtain ⟨p, q, hA0, hV, rfl, hfz, hnd⟩ := hW
  have hA : DataW.TrodAll enc Try.prog W 0 (fun _ => true) true Try.f7.params.toList args.toList ds p := hA0
  rw [Try.params7] at hA hval
  obtain ⟨v0, vs0, d0, ds0, p0, q0, hargs, rfl, rfl, h0, r0⟩ := trodAll_cons hA
  obtain ⟨v1, vs1, d1, ds1, p1, q1, rfl, rfl, rfl, h1, r1⟩ := trodAll_cons r0
  obtain ⟨v2, vs2, d2, ds2, p2, q2, rfl, rfl, rfl, h2, r2⟩ := trodAll_cons r1
  obtain ⟨rfl, rfl, rfl⟩ := trodAll_nil r2
  obtain rfl : args = #[v0, v1, v2] := by cases args; simp_all
  obtain ⟨rfl, rfl⟩ := trodVars_none hV
  obtain ⟨a0, rfl, rfl, rfl, w0⟩ := open_string Try.underlying9 (hval 0 9 v0 rfl rfl) h0
  obtain ⟨a1, rfl, rfl, rfl, w1⟩ := open_string Try.underlying9 (hval 1 9 v1 rfl rfl) h1
  obtain ⟨a2, rfl, rfl, rfl, w2⟩ := open_string Try.underlying9 (hval 2 9 v2 rfl rfl) h2
  clear hA0 hval0
  simp only [List.append_nil] at hW'
  refine (walk a0 a1 a2 w0 w1 w2 W).mono fun e W' ⟨he, hg⟩ => ?_
  subst he
  exact ⟨_, rfl, law_post hW' hg (fun _ => (trodAll_cons_mk (shut_bool Try.underlying4 _) trodAll_mk0)) ((trodAll_cons_mk (shut_string Try.underlying9 w0) (trodAll_cons_mk (shut_string Try.underlying9 w1) (trodAll_cons_mk (shut_string Try.underlying9 w2) trodAll_mk0)))) rfl⟩

theorem over : Rows.topicSharedRow.holds Try.pinned (OpenSpec.ofChange Rows.topicSharedSpec) :=
  OpenClaim.holds_of_wide 7 Try.f7 rfl rfl rfl rfl rfl rfl rfl ⟨rfl, rfl, rfl, rfl, rfl⟩ rfl rfl rfl rfl rfl (by kernel_rfl) Try.func7 (by kernel_rfl)
    (of_decide_eq_true (by kernel_rfl)) (by unfold Func.isWrapper; first | (rw [if_pos (by decide +kernel)]; kernel_rfl) | (rw [if_neg (by decide +kernel)]; exact ⟨rfl, rfl⟩))
    (fun os started H enc _ => lifted os started H enc)

/-- ████ THE STATEMENT ████ -/
theorem proved : Rows.TopicSharedSaid :=
  over
#print axioms proved
end Go.Proofs.Ytmjpnpnmhacknaa.topicShared
