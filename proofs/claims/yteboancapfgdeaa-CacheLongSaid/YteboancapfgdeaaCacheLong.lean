/- Proved: crierlaw8.CacheLong returns true for every four numbers. (The frame came from the kit's proof-skeleton.mjs.) -/
import Derived.Test.YteboancapfgdeaaRows
import Derived.Test.YteboancapfgdeaaLawPost
import Derived.Test.YteboancapfgdeaaCcBegin
import Derived.WalkKit
import Derived.ProofKit
import Derived.OpenShut
import Derived.ShutString
namespace Go.Proofs.Yteboancapfgdeaa.cacheLong
open Go.Proofs.Cc Go.ChangeShapes Go.WideShapes Go.ChangeAt Go.RowKit
open Go.ChangeMaps (open_string shut_string)
set_option linter.unusedVariables false      -- a walk need not use every 'w<i>' (that an integer argument fits its kind)

theorem own : ownKnob Try.prog.godebug = none := by kernel_rfl

set_option maxHeartbeats 8000000 in
set_option maxRecDepth 1000000 in
theorem walk (a0 : Int) (a1 : Int) (a2 : Int) (a3 : Int) (w0 : (Lit.int .i64 a0).wf = true) (w1 : (Lit.int .i64 a1).wf = true) (w2 : (Lit.int .i64 a2).wf = true) (w3 : (Lit.int .i64 a3).wf = true) (w : World) :
    Calls Try.prog 8 #[.int .i64 a0, .int .i64 a1, .int .i64 a2, .int .i64 a3] w fun e w' => e = .returned (.bool true) ∧ Below w.heap.size w w' := by
  by_cases h0 : 300 < a0
  · have d0 : decide (300 < a0) = true := decide_eq_true h0
    go_enter Try.func8, Try.ntmps8
    go_wp2_with fail
    go_ret
    exact ⟨rfl, Below.refl _ _⟩
  have d0 : decide (300 < a0) = false := decide_eq_false h0
  by_cases h1 : a1 < 1
  · have d1 : decide (a1 < 1) = true := decide_eq_true h1
    go_enter Try.func8, Try.ntmps8
    go_wp2_with fail
    go_ret
    exact ⟨rfl, Below.refl _ _⟩
  have d1 : decide (a1 < 1) = false := decide_eq_false h1
  by_cases h2 : 400 < a1
  · have d2 : decide (400 < a1) = true := decide_eq_true h2
    go_enter Try.func8, Try.ntmps8
    go_wp2_with fail
    go_ret
    exact ⟨rfl, Below.refl _ _⟩
  have d2 : decide (400 < a1) = false := decide_eq_false h2
  by_cases h3 : 20000 < a3
  · have d3 : decide (20000 < a3) = true := decide_eq_true h3
    go_enter Try.func8, Try.ntmps8
    go_wp2_with fail
    go_ret
    exact ⟨rfl, Below.refl _ _⟩
  have d3 : decide (20000 < a3) = false := decide_eq_false h3
  have H0 := Lib.hid h0
  have H1 := Lib.hid h1
  have H2 := Lib.hid h2
  have H3 := Lib.hid h3
  clear h0 h1 h2 h3
  go_enter Try.func8, Try.ntmps8
  go_wp2_with fail
  refine (beginII_any a0).mono ?_
  rintro ex u1 ⟨c, mp, kp, vp, rfl, hnew, hb1⟩
  have HNEW := Lib.hid hnew
  have HB1 := Lib.hid hb1
  clear hnew hb1
  go_wp2_with fail
  generalize hu2 : (u1.alloc (.cells #[.pointer (some ⟨c, 0, none⟩), .pointer (some ⟨mp, 0, none⟩), .pointer (some ⟨kp, 0, none⟩), .pointer (some ⟨vp, 0, none⟩)] 89)).alloc (.cells #[.int .i64 1, .int .i64 1, .int .i64 1, .int .i64 1, .int .i64 2, .int .i64 2, .int .i64 2, .int .i64 2, .int .i64 2, .int .i64 2, .int .i64 3, .int .i64 3, .int .i64 5, .int .i64 6, .int .i64 1, .int .i64 2] 3) = u2
  obtain ⟨hb2, hs2, hbox, hkin⟩ := long_boxes u1 c mp kp vp hu2
  have hstart : LongAt w u1.heap.size c mp kp vp (clampN a0) 0 u2 := by
    obtain ⟨o1, hD, ho⟩ := HNEW.out (fun _ => 0) 0
    refine ⟨recolor o1 u1 0, [], [], [], ⟨(hD.quad.recolor 0).below hb2, hD.key, hD.val, hD.len⟩, Nat.zero_le _, Nat.zero_le _, fun x hx => ?_, hbox, hkin, HB1.out.trans (hb2.mono HB1.out.size), by omega⟩
    by_cases hl : x < u1.heap.size
    · rw [recolor_old _ _ _ _ hl]
      exact ho x (by omega)
    · exact recolor_new _ _ _ _ (by omega)
  have HST := Lib.hid hstart
  clear hu2 hb2 hs2 hbox hkin hstart
  rw [i64_and31]
  go_loopg [11, 12, 13] a3.toNat (fun g n i kk wr => ∃ (j : Nat) (x : Int), j + g = a3.toNat ∧ n = .int .i64 x ∧ 0 ≤ x ∧ x ≤ 2147483647 ∧ i = .int .i64 (j : Nat) ∧ LongAt w u1.heap.size c mp kp vp (clampN a0) j wr)
  case atStart => exact ⟨0, a2 % 2147483648, by omega, rfl, by omega, by omega, rfl, HST.out⟩
  case round =>
    obtain ⟨j, x, hjg, rfl, hx0, hx1, rfl, hL⟩ := hrel
    have HL := Lib.hid hL
    clear hL
    cases gk with
    | zero =>
      have hj : ¬ ((j : Int) < a3) := by have := H3.out; omega
      have hd : decide ((j : Int) < a3) = false := decide_eq_false hj
      have hp0 := HL.out.box.p0
      have hp1 := HL.out.box.p1
      have hp2 := HL.out.box.p2
      have hp3 := HL.out.box.p3
      clear hj
      go_wp2_with fail
      refine (long_all HL.out (by have := H0.out; unfold clampN; omega) (-1)).mono ?_
      rintro ex u4 ⟨rfl, hb4⟩
      have HB4 := Lib.hid hb4
      clear hb4
      go_wp2_with fail
      go_ret
      exact ⟨rfl, HL.out.below.trans (HB4.out.mono HL.out.below.size)⟩
    | succ gk =>
      have hj : (j : Int) < a3 := by have := H3.out; omega
      have hd : decide ((j : Int) < a3) = true := decide_eq_true hj
      have hp0 := HL.out.box.p0
      have hp1 := HL.out.box.p1
      have hp2 := HL.out.box.p2
      have hp3 := HL.out.box.p3
      have HJ := Lib.hid hj
      clear hj
      go_wp2_with fail
      refine (lot_any x hx0 hx1).mono ?_
      rintro ex u4 ⟨y, rfl, hy0, hy1, rfl⟩
      obtain ⟨ix, hix⟩ : ∃ ix : Nat, y / 32 % 16 = (ix : Int) := ⟨(y / 32 % 16).toNat, by omega⟩
      have hix2 : ix < 16 := by omega
      have i0 : (0 : Int) ≤ (ix : Int) := by omega
      have i1 : (ix : Int) < 16 := by omega
      have hkind := HL.out.kinds ix hix2
      obtain ⟨kd, hkd⟩ : ∃ kd : Int, ([1, 1, 1, 1, 2, 2, 2, 2, 2, 2, 3, 3, 5, 6, 1, 2] : List Int)[ix]'hix2 = kd := ⟨_, rfl⟩
      rw [hkd] at hkind
      clear hkd hix2
      have hk1 : a1 ≠ 0 := by have := H1.out; omega
      have hmix : Try.prog.follows .mixedOrders = true := by kernel_rfl
      have ha1 : 0 < a1 := by have := H1.out; omega
      have m1 : 0 ≤ y / 256 % a1 := Int.emod_nonneg _ hk1
      have m2 : y / 256 % a1 < a1 := Int.emod_lt_of_pos _ ha1
      have m3 : a1 ≤ 400 := by have := H2.out; omega
      have HWK := Lib.hid (show (Lit.int .i64 (y / 256 % a1)).wf = true from by simp [Lit.wf, IntKind.min, IntKind.max, IntKind.bits, IntKind.signed]; omega)
      have HWK2 := Lib.hid (show (Lit.int .i64 ((y / 256).tmod a1)).wf = true from by rw [Int.tmod_eq_emod_of_nonneg (by omega)]; exact HWK.out)
      have HWV := Lib.hid (show (Lit.int .i64 (y / 8 % 97)).wf = true from by simp [Lit.wf, IntKind.min, IntKind.max, IntKind.bits, IntKind.signed]; omega)
      have HWV2 := Lib.hid (show (Lit.int .i64 ((y / 8).tmod 97)).wf = true from by rw [Int.tmod_eq_emod_of_nonneg (by omega)]; exact HWV.out)
      have HSZ := Lib.hid (show w.heap.size ≤ u1.heap.size from HB1.out.size)
      have HMO := Lib.hid (show clampN a0 ≤ 1048576 from by unfold clampN; omega)
      have HJ2 := Lib.hid (show j ≤ 20000 from by have := H3.out; have := HJ.out; omega)
      have j0 : ((j : Int) + 1 ≤ 9223372036854775807) := by have := HJ2.out; omega
      have HDO := Lib.hid (show ∀ kind : Int, Calls Try.prog 41 #[.agg #[.pointer (some ⟨c, 0, none⟩), .pointer (some ⟨mp, 0, none⟩), .pointer (some ⟨kp, 0, none⟩), .pointer (some ⟨vp, 0, none⟩)], .int .i64 kind, .int .i64 ((y / 256).tmod a1), .int .i64 ((y / 8).tmod 97), .int .i64 (-1)] u4.drew (fun ex w' => ex = .returned (.bool true) ∧ LongAt w u1.heap.size c mp kp vp (clampN a0) (j + 1) w') from fun kind => long_does2 HL.out.drew HSZ.out HMO.out HJ2.out kind _ _ _ HWK2.out HWV2.out)
      clear m1 m2 m3 hmix
      cases hb1 : (y / 512 % 1500 == 0) with
      | false =>
        cases hb2 : ((j : Int) % 500 == 499) with
        | false =>
          go_wp2_with fail
          go_region_held3 (fun w' => w'.cell? ⟨u1.heap.size, 0, none⟩ = some (.pointer (some ⟨c, 0, none⟩)) ∧ w'.cell? ⟨u1.heap.size, 1, none⟩ = some (.pointer (some ⟨mp, 0, none⟩)) ∧ w'.cell? ⟨u1.heap.size, 2, none⟩ = some (.pointer (some ⟨kp, 0, none⟩)) ∧ w'.cell? ⟨u1.heap.size, 3, none⟩ = some (.pointer (some ⟨vp, 0, none⟩)))
            (first
              | go_keep
              | exact ⟨HL1.out.box.p0, HL1.out.box.p1, HL1.out.box.p2, HL1.out.box.p3⟩
              | exact ⟨HL.out.box.p0, HL.out.box.p1, HL.out.box.p2, HL.out.box.p3⟩)
            ((go_at_call 41; refine (HDO.out kd).mono ?_; rintro ex W ⟨rfl, hL1⟩; have HL1 := Lib.hid hL1))
          all_goals
            go_wp2_with fail
            go_roundg gk
            case measure => omega
            case rel => exact ⟨j + 1, y, by omega, rfl, hy0, hy1, by go_num, HL1.out⟩
        | true =>
          go_wp2_with fail
          go_region_held3 (fun w' => w'.cell? ⟨u1.heap.size, 0, none⟩ = some (.pointer (some ⟨c, 0, none⟩)) ∧ w'.cell? ⟨u1.heap.size, 1, none⟩ = some (.pointer (some ⟨mp, 0, none⟩)) ∧ w'.cell? ⟨u1.heap.size, 2, none⟩ = some (.pointer (some ⟨kp, 0, none⟩)) ∧ w'.cell? ⟨u1.heap.size, 3, none⟩ = some (.pointer (some ⟨vp, 0, none⟩)))
            (first
              | go_keep
              | exact ⟨HL1.out.box.p0, HL1.out.box.p1, HL1.out.box.p2, HL1.out.box.p3⟩
              | exact ⟨HL.out.box.p0, HL.out.box.p1, HL.out.box.p2, HL.out.box.p3⟩)
            ((go_at_call 41; refine (HDO.out 7).mono ?_; rintro ex W ⟨rfl, hL1⟩; have HL1 := Lib.hid hL1))
          all_goals
            go_wp2_with fail
            go_roundg gk
            case measure => omega
            case rel => exact ⟨j + 1, y, by omega, rfl, hy0, hy1, by go_num, HL1.out⟩
      | true =>
        cases hb2 : ((j : Int) % 500 == 499) with
        | false =>
          go_wp2_with fail
          go_region_held3 (fun w' => w'.cell? ⟨u1.heap.size, 0, none⟩ = some (.pointer (some ⟨c, 0, none⟩)) ∧ w'.cell? ⟨u1.heap.size, 1, none⟩ = some (.pointer (some ⟨mp, 0, none⟩)) ∧ w'.cell? ⟨u1.heap.size, 2, none⟩ = some (.pointer (some ⟨kp, 0, none⟩)) ∧ w'.cell? ⟨u1.heap.size, 3, none⟩ = some (.pointer (some ⟨vp, 0, none⟩)))
            (first
              | go_keep
              | exact ⟨HL1.out.box.p0, HL1.out.box.p1, HL1.out.box.p2, HL1.out.box.p3⟩
              | exact ⟨HL.out.box.p0, HL.out.box.p1, HL.out.box.p2, HL.out.box.p3⟩)
            ((go_at_call 41; refine (HDO.out 4).mono ?_; rintro ex W ⟨rfl, hL1⟩; have HL1 := Lib.hid hL1))
          all_goals
            go_wp2_with fail
            go_roundg gk
            case measure => omega
            case rel => exact ⟨j + 1, y, by omega, rfl, hy0, hy1, by go_num, HL1.out⟩
        | true =>
          go_wp2_with fail
          go_region_held3 (fun w' => w'.cell? ⟨u1.heap.size, 0, none⟩ = some (.pointer (some ⟨c, 0, none⟩)) ∧ w'.cell? ⟨u1.heap.size, 1, none⟩ = some (.pointer (some ⟨mp, 0, none⟩)) ∧ w'.cell? ⟨u1.heap.size, 2, none⟩ = some (.pointer (some ⟨kp, 0, none⟩)) ∧ w'.cell? ⟨u1.heap.size, 3, none⟩ = some (.pointer (some ⟨vp, 0, none⟩)))
            (first
              | go_keep
              | exact ⟨HL1.out.box.p0, HL1.out.box.p1, HL1.out.box.p2, HL1.out.box.p3⟩
              | exact ⟨HL.out.box.p0, HL.out.box.p1, HL.out.box.p2, HL.out.box.p3⟩)
            ((go_at_call 41; refine (HDO.out 7).mono ?_; rintro ex W ⟨rfl, hL1⟩; have HL1 := Lib.hid hL1))
          all_goals
            go_wp2_with fail
            go_roundg gk
            case measure => omega
            case rel => exact ⟨j + 1, y, by omega, rfl, hy0, hy1, by go_num, HL1.out⟩

/-! ### THE ROW's STEP: WRITTEN OUT: LEAVE IT -/
set_option maxRecDepth 100000 in
theorem lifted (os : Os) (started : os.Started) (H : Type) (enc : TypeId × Value → H) :
    ReturnsInHanded {} Try.checked os 8 .any (Rows.cacheLongSpec.pre6 enc Try.prog Try.f8 Rows.cacheLongRow.domain false) (Rows.cacheLongSpec.post enc Try.prog Try.f8 false true false false) := by
  refine returnsInHanded_of_change (C := Try.checked) own started (by kernel_rfl) Try.func8
    (ChangeSpec.witness6 (enc := enc) (C := Try.checked) false ⟨#[], #[.int .i64 0, .int .i64 0, .int .i64 0, .int .i64 0], []⟩ 8 (by kernel_rfl) (by kernel_rfl) (by kernel_rfl) (by kernel_rfl)) ?_
  intro W base args ds gs before hval0 hW hcnd _
  have hval : ∀ (j : Nat) t v, Try.f8.params[j]? = some t → args[j]? = some v → Value.okWide Try.prog W .any base t v := hval0
  have hW' := hW
  obtain ⟨p, q, hA0, hV, rfl, hfz, hnd⟩ := hW
  have hA : DataW.TrodAll enc Try.prog W 0 (fun _ => true) true Try.f8.params.toList args.toList ds p := hA0
  rw [Try.params8] at hA hval
  obtain ⟨v0, vs0, d0, ds0, p0, q0, hargs, rfl, rfl, h0, r0⟩ := trodAll_cons hA
  obtain ⟨v1, vs1, d1, ds1, p1, q1, rfl, rfl, rfl, h1, r1⟩ := trodAll_cons r0
  obtain ⟨v2, vs2, d2, ds2, p2, q2, rfl, rfl, rfl, h2, r2⟩ := trodAll_cons r1
  obtain ⟨v3, vs3, d3, ds3, p3, q3, rfl, rfl, rfl, h3, r3⟩ := trodAll_cons r2
  obtain ⟨rfl, rfl, rfl⟩ := trodAll_nil r3
  obtain rfl : args = #[v0, v1, v2, v3] := by cases args; simp_all
  obtain ⟨rfl, rfl⟩ := trodVars_none hV
  obtain ⟨a0, rfl, rfl, rfl, w0⟩ := open_int Try.underlying3 (hval 0 3 v0 rfl rfl) h0
  obtain ⟨a1, rfl, rfl, rfl, w1⟩ := open_int Try.underlying3 (hval 1 3 v1 rfl rfl) h1
  obtain ⟨a2, rfl, rfl, rfl, w2⟩ := open_int Try.underlying3 (hval 2 3 v2 rfl rfl) h2
  obtain ⟨a3, rfl, rfl, rfl, w3⟩ := open_int Try.underlying3 (hval 3 3 v3 rfl rfl) h3
  clear hA0 hval0
  simp only [List.append_nil] at hW'
  refine (walk a0 a1 a2 a3 w0 w1 w2 w3 W).mono fun e W' ⟨he, hg⟩ => ?_
  subst he
  exact ⟨_, rfl, law_post hW' hg (fun _ => (trodAll_cons_mk (shut_bool Try.underlying4 _) trodAll_mk0)) ((trodAll_cons_mk (shut_int Try.underlying3 w0) (trodAll_cons_mk (shut_int Try.underlying3 w1) (trodAll_cons_mk (shut_int Try.underlying3 w2) (trodAll_cons_mk (shut_int Try.underlying3 w3) trodAll_mk0))))) rfl⟩

theorem over : Rows.cacheLongRow.holds Try.pinned (OpenSpec.ofChange Rows.cacheLongSpec) :=
  OpenClaim.holds_of_wide 8 Try.f8 rfl rfl rfl rfl rfl rfl rfl ⟨rfl, rfl, rfl, rfl, rfl⟩ rfl rfl rfl rfl rfl (by kernel_rfl) Try.func8 (by kernel_rfl)
    (of_decide_eq_true (by kernel_rfl)) (by unfold Func.isWrapper; first | (rw [if_pos (by decide +kernel)]; kernel_rfl) | (rw [if_neg (by decide +kernel)]; exact ⟨rfl, rfl⟩))
    (fun os started H enc _ => lifted os started H enc)

/-- ████ THE STATEMENT ████ -/
theorem proved : Rows.CacheLongSaid :=
  over
#print axioms proved
end Go.Proofs.Yteboancapfgdeaa.cacheLong
