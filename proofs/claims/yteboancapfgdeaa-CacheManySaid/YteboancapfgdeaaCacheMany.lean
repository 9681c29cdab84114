/- Proved: crierlaw8.CacheMany returns true for every input. -/
import Derived.Test.YteboancapfgdeaaRows
import Derived.Test.YteboancapfgdeaaLawPost
import Derived.Test.YteboancapfgdeaaCcScript
import Derived.Test.YteboancapfgdeaaCcMany
import Derived.Test.YteboancapfgdeaaCcCodesK
import Derived.Test.YteboancapfgdeaaRgNorm
import Derived.WalkKit
import Derived.ProofKit
import Derived.OpenShut
import Derived.BigRegion
import Derived.Shelf.RegionOpen
import Derived.Deep.DeepCutAuto
namespace Go.Proofs.Yteboancapfgdeaa.cacheMany
open Go.Proofs.Cc Go.Proofs.Yteboancapfgdeaa Go.Proofs.Rg Go.ChangeShapes Go.WideShapes Go.ChangeAt Go.RowKit
set_option linter.unusedVariables false

theorem own : ownKnob Try.prog.godebug = none := by kernel_rfl

theorem run_max_i {P : Program} (w : World) (ts : Array TypeId) (t : TypeId) (k k' : IntKind) (x y : Int) : (Builtin.max_ ts t #[.int k x, .int k' y]).run P w = .ok (.int k (max x y)) w := by
  have e : (if x < y then y else x) = max x y := by omega
  simp [Builtin.max_, Builtin.max2, e]
theorem run_min_i {P : Program} (w : World) (ts : Array TypeId) (t : TypeId) (k k' : IntKind) (x y : Int) : (Builtin.min_ ts t #[.int k x, .int k' y]).run P w = .ok (.int k (min x y)) w := by
  have e : (if y < x then y else x) = min x y := by omega
  simp [Builtin.min_, Builtin.min2, e]
attribute [local go_sem high] run_max_i run_min_i

theorem infoPair : (Try.prog.info? 66).map (fun i => (i.zero, i.size, i.bytes)) = some (some (.agg #[.pointer none, .pointer none, .pointer none, .pointer none]), 4, 32) := by kernel_rfl

set_option maxHeartbeats 8000000 in
set_option maxRecDepth 1000000 in
theorem idle (a0 : Int) (a1 : Int) (sa : Option Addr) (L : List OpV) (cap : Nat) (hlen : L.length ≤ maxLen) (w : World) (hg : 100 < L.length ∨ a1 < 2 ∨ 20 < a1) :
    Calls Try.prog 5 #[.int .i64 a0, .int .i64 a1, .slice sa L.length cap] w fun e w' => e = .returned (.bool true) ∧ Below w.heap.size w w' := by
  have hb := Lib.hid (Below.refl w.heap.size w)
  by_cases h1 : 100 < L.length
  · have hd1 : decide (((L.length : Nat) : Int) > 100) = true := by simp; omega
    clear hg
    go_enter Try.func5, Try.ntmps5
    go_wp2_with fail
    go_ret
    exact ⟨rfl, hb.out⟩
  · have hd1 : decide (((L.length : Nat) : Int) > 100) = false := by simp; omega
    by_cases h2 : a1 < 2
    · have hd2 : decide (a1 < 2) = true := by simpa using h2
      clear hg
      go_enter Try.func5, Try.ntmps5
      go_wp2_with fail
      go_ret
      exact ⟨rfl, hb.out⟩
    · have hd2 : decide (a1 < 2) = false := by simp; omega
      have hd3 : decide (a1 > 20) = true := by simp; omega
      clear hg
      go_enter Try.func5, Try.ntmps5
      go_wp2_with fail
      go_ret
      exact ⟨rfl, hb.out⟩


set_option maxHeartbeats 8000000 in
set_option maxRecDepth 1000000 in
theorem walk (a0 : Int) (a1 : Int) (w0 : (Lit.int .i64 a0).wf = true) (w1 : (Lit.int .i64 a1).wf = true) (sa : Option Addr) (L : List OpV) (cap : Nat) (hlen : L.length ≤ maxLen) (w : World) (hS : ScriptAt w sa L) :
    Calls Try.prog 5 #[.int .i64 a0, .int .i64 a1, .slice sa L.length cap] w fun e w' => e = .returned (.bool true) ∧ Below w.heap.size w w' := by
  by_cases hg : 100 < L.length ∨ a1 < 2 ∨ 20 < a1
  · exact idle a0 a1 sa L cap hlen w hg
  · obtain ⟨hl, hn2, hn20⟩ : L.length ≤ 100 ∧ 2 ≤ a1 ∧ a1 ≤ 20 := by omega
    obtain ⟨i0, hi, hz0, hz1, hz2⟩ := info_parts infoPair
    obtain ⟨n, rfl⟩ : ∃ n : Nat, a1 = (n : Int) := ⟨a1.toNat, by omega⟩
    have hn2' : 2 ≤ n := by omega
    have hn20' : n ≤ 20 := by omega
    have hmm0 : 0 ≤ min (max a0 0) 1000 := by omega
    have hmm1 : min (max a0 0) 1000 ≤ 1000 := by omega
    obtain ⟨mm, hmm⟩ : ∃ mm, min (max a0 0) 1000 = mm := ⟨_, rfl⟩
    rw [hmm] at hmm0 hmm1
    have hd1 : decide (((L.length : Nat) : Int) > 100) = false := by simp; omega
    have hd2 : decide ((n : Int) < 2) = false := by simp; omega
    have hd3 : decide ((n : Int) > 20) = false := by simp; omega
    have HS := Lib.hid hS
    clear hg hS
    go_enter Try.func5, Try.ntmps5
    go_wp2_with fail
    go_loopg [7, 8, 9] n (fun gg v i p wr => ∃ k Ps o, k + gg = n ∧ i = .int .i64 (k : Nat) ∧ Ps.length = k ∧ KI.ManyAt w mm Ps v 0 wr o)
    case atStart =>
      exact ⟨0, [], fun _ => 0, by omega, rfl, rfl, ⟨fun t p hp => (by simp at hp), fun _ _ => rfl, World.ownsRow_nil _ _ _ _, fun g e => (by cases e), Below.refl _ _⟩⟩
    case round =>
      obtain ⟨k, Ps, o, hkg, rfl, hk, hM⟩ := hrel
      have HM := Lib.hid hM
      have HK := Lib.hid hk
      cases gk with
      | succ gk =>
        have hkn : k < n := by omega
        have i0' : (0 : Int) ≤ (k : Int) := by omega
        have i1' : (k : Int) < (n : Int) := by omega
        have i2' : k ≤ 20 := by omega
        obtain ⟨a, c0, rfl⟩ := owns_shape hM.row
        clear hM hk
        go_wp2_with fail
        refine (KI.pairKI_new (w := wr) (mm + (k : Int))).mono ?_
        rintro ex u1 ⟨c, mp, kp, vp, rfl, hnew, hb⟩
        have HN := Lib.hid hnew
        have HB := Lib.hid hb
        have hsz : wr.heap.size ≤ u1.heap.size := hb.size
        clear hnew hb
        go_upto_region 10 with fail
        generalize hV : u1.alloc (.cells #[.pointer (some ⟨c, 0, none⟩), .pointer (some ⟨mp, 0, none⟩), .pointer (some ⟨kp, 0, none⟩), .pointer (some ⟨vp, 0, none⟩)] 66) = V
        obtain ⟨hb1, hs1, hbox⟩ := KI.box_new u1 c mp kp vp hV
        have p0 := hbox.p0
        have p1 := hbox.p1
        have p2 := hbox.p2
        have p3 := hbox.p3
        have hB1 := Lib.hid hb1
        have hown1 := ownsRow_same (ownsRow_same HM.out.row (Below.toSame HB.out (S := fun _ => True)) (fun _ _ => trivial)) (Below.toSame hb1 (S := fun _ => True)) (fun _ _ => trivial)
        have hbas : w.heap.size ≤ V.heap.size := by have := HM.out.below.size; omega
        clear hV hbox hb1 hs1
        go_wp2_with (at_builtin; refine wpList_append_own_at _ rfl _ _ 63 rfl w.heap.size 66 i0 (.agg #[.pointer none, .pointer none, .pointer none, .pointer none]) 4 32 Try.underlying63 hi hz0 hz1 hz2 rfl (by decide) _ _ _ rfl (hown1.alloc _) ⟨V.heap.size, 0, none⟩ 1 1 [.pointer (some ⟨c, 0, none⟩), .pointer (some ⟨mp, 0, none⟩), .pointer (some ⟨kp, 0, none⟩), .pointer (some ⟨vp, 0, none⟩)] rfl rfl ?c2 ?c3 ?c4 ?c5 ?c6 ?_)
        case c2 => exact cell_newsB _ _ _
        case c3 => simp [Value.oneCell']
        case c4 => have := HK.out; unfold maxLen; omega
        case c5 => have := HK.out; omega
        case c6 => simp; omega
        intro v' u3 hown2 hgrow _ hob
        obtain ⟨g, cap3, rfl⟩ := owns_some hown2
        have HAdd := Lib.hid (HM.out.add (by rw [HK.out]; exact HN.out) HB.out hB1.out hgrow hown2 hob)
        clear hown1 hown2 hgrow hob p0 p1 p2 p3
        go_wp2_with fail
        go_roundg gk
        case measure => omega
        case rel =>
          obtain ⟨o3, h3⟩ := HAdd.out
          exact ⟨k + 1, _, o3, by omega, by go_num, by simp [HK.out], h3⟩
      | zero =>
        obtain rfl : k = n := by omega
        have hne : Ps ≠ [] := by intro e; rw [e] at hk; simp at hk; omega
        obtain ⟨g, cap4, rfl, hc4, hm4, -⟩ := hM.open hne
        have HNE := Lib.hid hne
        rw [hk] at hc4 ⊢
        obtain ⟨w0, hw0⟩ : ∃ w0, w0 = wr := ⟨_, rfl⟩
        rw [← hw0] at HM
        clear hM hk hne hi hz0 hz1 hz2
        go_wp2_with fail
        go_loopg [10, 11, 12] L.length (fun gg i j at' wr => ∃ r o, r + gg = L.length ∧ i = .int .i64 (r : Nat) ∧ KI.ManyAt w mm Ps (.slice (some ⟨g, 0, none⟩) k cap4) (r * 20) wr o)
        case atStart => exact ⟨0, o, by omega, rfl, by rw [← hw0, ← HK.out]; simpa [HK.out] using HM.out.more (Nat.zero_le _)⟩
        case round =>
          obtain ⟨r, o2, hrg, rfl, hM2⟩ := hrel
          have HM2 := Lib.hid hM2
          clear hM2
          cases gk with
          | zero =>
            obtain rfl : r = L.length := by omega
            go_wp2_with fail
            go_loopg [13] k (fun gg i wr => ∃ s, s + gg = k ∧ i = .int .i64 (s : Nat) ∧ ∃ o, KI.ManyAt w mm Ps (.slice (some ⟨g, 0, none⟩) k cap4) (L.length * 20) wr o)
            case atStart => exact ⟨0, by omega, rfl, o2, HM2.out⟩
            case round =>
              obtain ⟨s, hsg, rfl, o3, hM3⟩ := hrel
              have HM3 := Lib.hid hM3
              cases gk with
              | zero =>
                obtain rfl : s = k := by omega
                clear hM3
                go_wp2_with fail
                go_ret
                exact ⟨rfl, HM3.out.below⟩
              | succ gk =>
                have hsk : s < k := by omega
                obtain ⟨pv, hpv⟩ : ∃ pv, Ps[s]? = some pv := ⟨_, List.getElem?_eq_getElem (by rw [HK.out]; exact hsk)⟩
                obtain ⟨g', cap', hvv, -, -, hcell⟩ := hM3.open HNE.out
                obtain ⟨rfl, rfl⟩ : g' = g ∧ cap' = cap4 := by injection hvv with e1 e2 e3; injection e1 with e1; injection e1 with e1; exact ⟨e1.symm, e3.symm⟩
                obtain ⟨g0, g1, g2, g3⟩ := hcell s pv hpv
                have HPV := Lib.hid hpv
                have i0' : (0 : Int) ≤ (s : Int) := by omega
                have i1' : (s : Int) < (k : Int) := by omega
                clear hM3 hvv hcell hpv
                go_wp2_with fail
                refine (KI.PairW.allKI_ (HM3.out.pairs s pv HPV.out) (KI.clampN_le _) (-1)).mono ?_
                rintro ex W4 ⟨rfl, hb4⟩
                have HM4 := Lib.hid (HM3.out.frame hb4)
                clear hb4 g0 g1 g2 g3
                go_wp2_with fail
                go_roundg gk
                case measure => omega
                case rel => exact ⟨s + 1, by omega, by go_num, o3, HM4.out⟩
          | succ gk =>
            have hrl : r < L.length := by omega
            have hr100 : r ≤ 100 := by omega
            go_wp2_with fail
            obtain ⟨w2, hw2⟩ : ∃ w2, w2 = wr := ⟨_, rfl⟩
            rw [← hw2] at HM2
            go_loopg [11, 12] k (fun gg j at' wr => ∃ s o, s + gg = k ∧ j = .int .i64 (s : Nat) ∧ KI.ManyAt w mm Ps (.slice (some ⟨g, 0, none⟩) k cap4) (r * 20 + s) wr o)
            case atStart => exact ⟨0, o2, by omega, rfl, by rw [← hw2]; exact HM2.out⟩
            case round =>
              obtain ⟨s, o3, hsg, rfl, hM3⟩ := hrel
              have HM3 := Lib.hid hM3
              clear hM3
              cases gk with
              | zero =>
                obtain rfl : s = k := by omega
                go_wp2_with fail
                go_roundg gk
                case measure => omega
                case rel => exact ⟨r + 1, o3, by omega, by go_num, HM3.out.more (by omega)⟩
              | succ gk =>
                have hsk : s < k := by omega
                have i0' : (0 : Int) ≤ (s : Int) := by omega
                have i1' : (s : Int) < (k : Int) := by omega
                have i2' : s ≤ 20 := by omega
                obtain ⟨t, ht⟩ : ∃ t, (s * 3 + r) % k = t := ⟨_, rfl⟩
                have htk : t < k := by rw [← ht]; exact Nat.mod_lt _ (by omega)
                have hti : ((s : Int) * 3 + (r : Int)) % (k : Int) = (t : Int) := by rw [← ht]; push_cast; rfl
                have j0' : (0 : Int) ≤ (t : Int) := by omega
                have j1' : (t : Int) < (k : Int) := by omega
                have j2' : t ≤ 20 := by omega
                clear ht
                by_cases hq : ((r : Int) + (t : Int)) % 4 = 1
                · have hq' : (((r : Int) + (t : Int)) % 4 == 1) = true := by simpa using hq
                  clear hq
                  go_wp2_with fail
                  go_roundg gk
                  case measure => omega
                  case rel => exact ⟨s + 1, o3, by omega, by go_num, HM3.out.more (by omega)⟩
                · have hq' : (((r : Int) + (t : Int)) % 4 == 1) = false := by rw [beq_eq_false_iff_ne]; exact hq
                  clear hq
                  obtain ⟨b, off, rfl, -, hop⟩ := HS.out.op HM3.out.below hrl
                  generalize L[r] = op at hop
                  obtain ⟨pv, hpv⟩ : ∃ pv, Ps[t]? = some pv := ⟨_, List.getElem?_eq_getElem (by rw [HK.out]; exact htk)⟩
                  obtain ⟨g', cap', hvv, -, -, hcell⟩ := HM3.out.open HNE.out
                  obtain ⟨rfl, rfl⟩ : g' = g ∧ cap' = cap4 := by injection hvv with e1 e2 e3; injection e1 with e1; injection e1 with e1; exact ⟨e1.symm, e3.symm⟩
                  obtain ⟨g0, g1, g2, g3⟩ := hcell t pv hpv
                  have HPV := Lib.hid hpv
                  have z0 := regr_cell g0
                  have z1 := regr_cell g1
                  have z2 := regr_cell g2
                  have z3 := regr_cell g3
                  have s0 := regr_cell hop.c0
                  have s2 := regr_cell hop.c2
                  have s3 := regr_cell hop.c3
                  have s4 := regr_cell hop.c4
                  have s5 := regr_cell hop.c5
                  have r0' : (0 : Int) ≤ (r : Int) := by omega
                  have r1' : (r : Int) < (L.length : Int) := by omega
                  obtain ⟨x, hx⟩ : ∃ x : I64, IntKind.i64.wrap (op.v.1 + (t : Int)) = x.1 := ⟨⟨_, wf_wrap _ _⟩, rfl⟩
                  clear hop hvv hcell hpv g0 g1 g2 g3
                  go_wp2_with fail
                  refine wp_region_norm_below [] [0, 1, 2, 3, 4, 5, 6, 7, 8, 9, 10, 11, 12, 13, 14, 15, 16, 17, 18, 19, 20, 21, 22, 23, 24, 25] [] [26, 27] [26, 27] (by kernel_rfl) (by kernel_rfl) (fun _ _ d _ _ h => by cases d <;> exact h) ?_
                  simp only [pick, List.filterMap_cons, List.filterMap_nil, List.getElem?_toArray, List.getElem?_cons_zero, List.getElem?_cons_succ]
                  repeat (first | (with_reducible refine wpQuiet_nil ?_) | quiet_step (fail))
                  intro V1 hV1
                  change wpList _ _ _ _ _ V1
                  have HMV := Lib.hid (HM3.out.frame hV1)
                  clear z0 z1 z2 z3 s0 s2 s3 s4 s5 hV1
                  go_wp2_with fail
                  refine (KI.many_does HMV.out HPV.out (by omega) op.kind.1 ⟨op.name, op.n⟩ x op.stop.1).mono ?_
                  rintro ex u4 ⟨rfl, o4, hM4⟩
                  have HM4 := Lib.hid hM4
                  clear hM4
                  go_wp2_with fail
                  go_roundg gk
                  case measure => omega
                  case rel => exact ⟨s + 1, o4, by omega, by go_num, HM4.out⟩

set_option maxRecDepth 100000 in
theorem lifted (os : Os) (started : os.Started) (H : Type) (enc : TypeId × Value → H) :
    ReturnsInHanded {} Try.checked os 5 .any (Rows.cacheManySpec.pre6 enc Try.prog Try.f5 Rows.cacheManyRow.domain false) (Rows.cacheManySpec.post enc Try.prog Try.f5 false true false false) := by
  refine returnsInHanded_of_change (C := Try.checked) own started (by kernel_rfl) Try.func5
    (ChangeSpec.witness6 (enc := enc) (C := Try.checked) false ⟨#[], #[.int .i64 0, .int .i64 0, .slice none 0 0], []⟩ 8 (by kernel_rfl) (by kernel_rfl) (by kernel_rfl) (by kernel_rfl)) ?_
  intro W base args ds gs before hval0 hW hcnd _
  have hval : ∀ (j : Nat) t v, Try.f5.params[j]? = some t → args[j]? = some v → Value.okWide Try.prog W .any base t v := hval0
  have hW' := hW
  obtain ⟨p, q, hA0, hV, rfl, hfz, hnd⟩ := hW
  have hA : DataW.TrodAll enc Try.prog W 0 (fun _ => true) true Try.f5.params.toList args.toList ds p := hA0
  rw [Try.params5] at hA hval
  obtain ⟨v0, vs0, d0, ds0, p0, q0, hargs, rfl, rfl, h0, r0⟩ := trodAll_cons hA
  obtain ⟨v1, vs1, d1, ds1, p1, q1, rfl, rfl, rfl, h1, r1⟩ := trodAll_cons r0
  obtain ⟨v2, vs2, d2, ds2, p2, q2, rfl, rfl, rfl, h2, r2⟩ := trodAll_cons r1
  obtain ⟨rfl, rfl, rfl⟩ := trodAll_nil r2
  obtain rfl : args = #[v0, v1, v2] := by cases args; simp_all
  obtain ⟨rfl, rfl⟩ := trodVars_none hV
  obtain ⟨a0, rfl, rfl, rfl, w0⟩ := open_int Try.underlying3 (hval 0 3 v0 rfl rfl) h0
  obtain ⟨a1, rfl, rfl, rfl, w1⟩ := open_int Try.underlying3 (hval 1 3 v1 rfl rfl) h1
  obtain ⟨sa, L, cap, rfl, hlen, hS⟩ := open_script (okWide_slice Try.underlying22 (hval 2 22 v2 rfl rfl)) h2
  clear hA0 hval0
  simp only [List.append_nil, List.nil_append] at hW'
  refine (walk a0 a1 w0 w1 sa L cap hlen W hS).mono fun e W' ⟨he, hg⟩ => ?_
  subst he
  have hshut := (trodAll_cons_mk (shut_int Try.underlying3 w0) (trodAll_cons_mk (shut_int Try.underlying3 w1) (trodAll_cons_mk (again script_readable script_row h2 hg) trodAll_mk0)))
  simp only [List.append_nil, List.nil_append] at hshut
  exact ⟨_, rfl, law_post hW' hg (fun _ => (trodAll_cons_mk (shut_bool Try.underlying4 _) trodAll_mk0)) hshut rfl⟩

theorem over : Rows.cacheManyRow.holds Try.pinned (OpenSpec.ofChange Rows.cacheManySpec) :=
  OpenClaim.holds_of_wide 5 Try.f5 rfl rfl rfl rfl rfl rfl rfl ⟨rfl, rfl, rfl, rfl, rfl⟩ rfl rfl rfl rfl rfl (by kernel_rfl) Try.func5 (by kernel_rfl)
    (of_decide_eq_true (by kernel_rfl)) (by unfold Func.isWrapper; first | (rw [if_pos (by decide +kernel)]; kernel_rfl) | (rw [if_neg (by decide +kernel)]; exact ⟨rfl, rfl⟩))
    (fun os started H enc _ => lifted os started H enc)

theorem proved : Rows.CacheManySaid :=
  over
#print axioms proved
end Go.Proofs.Yteboancapfgdeaa.cacheMany
