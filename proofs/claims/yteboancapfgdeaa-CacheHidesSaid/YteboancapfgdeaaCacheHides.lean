/- Proved: crierlaw8.CacheHides returns true for every input. -/
import Derived.Test.YteboancapfgdeaaRows
import Derived.Test.YteboancapfgdeaaLawPost
import Derived.Test.YteboancapfgdeaaCcScript
import Derived.Test.YteboancapfgdeaaCcHidesAt
import Derived.Test.YteboancapfgdeaaCcKnown
import Derived.WalkKit
import Derived.ProofKit
import Derived.OpenShut
import Derived.BigRegion
import Derived.Shelf.RegionOpen
import Derived.Deep.DeepCutAuto
namespace Go.Proofs.Yteboancapfgdeaa.cacheHides
open Go.Proofs.Cc Go.Proofs.Yteboancapfgdeaa Go.ChangeShapes Go.WideShapes Go.ChangeAt Go.RowKit
set_option linter.unusedVariables false

theorem own : ownKnob Try.prog.godebug = none := by kernel_rfl

theorem run_max_i {P : Program} (w : World) (ts : Array TypeId) (t : TypeId) (k k' : IntKind) (x y : Int) : (Builtin.max_ ts t #[.int k x, .int k' y]).run P w = .ok (.int k (max x y)) w := by
  have e : (if x < y then y else x) = max x y := by omega
  simp [Builtin.max_, Builtin.max2, e]

set_option maxHeartbeats 8000000 in
set_option maxRecDepth 1000000 in
theorem walk (a0 : Int) (w0 : (Lit.int .i64 a0).wf = true) (sa : Option Addr) (L : List OpV) (cap : Nat) (hlen : L.length ≤ maxLen) (w : World) (hS : ScriptAt w sa L) :
    Calls Try.prog 7 #[.int .i64 a0, .slice sa L.length cap] w fun e w' => e = .returned (.bool true) ∧ Below w.heap.size w w' := by
  have hr20 : clampN a0 ≤ 1048576 := by unfold clampN; omega
  have HS := Lib.hid hS
  clear hS
  by_cases h0 : 600 < L.length
  · have d0 : decide (((L.length : Nat) : Int) > 600) = true := by simp; omega
    go_enter Try.func7, Try.ntmps7
    go_wp2_with fail
    refine (known_any w).mono ?_
    rintro ex u1 ⟨rfl, hb1⟩
    have HB1 := Lib.hid hb1
    clear hb1
    go_wp2_with fail
    go_ret
    exact ⟨rfl, HB1.out⟩
  have d0 : decide (((L.length : Nat) : Int) > 600) = false := by simp; omega
  have h600 : L.length ≤ 600 := by omega
  clear h0
  go_enter Try.func7, Try.ntmps7
  go_wp2_with fail
  refine (known_any w).mono ?_
  rintro ex u1 ⟨rfl, hb1⟩
  have HB1 := Lib.hid hb1
  clear hb1
  go_wp2_with fail
  refine (KL.newKL_any (w := u1) a0).mono ?_
  rintro ex u2 ⟨rfl, hC, hb2⟩
  have HM0 := Lib.hid (KL.hide_start (add := 0) HB1.out hb2 hC)
  clear hC hb2
  obtain ⟨c, hc⟩ : ∃ c, u1.heap.size = c := ⟨_, rfl⟩
  rw [hc] at HM0 ⊢
  clear hc
  generalize clampN a0 = room at hr20 HM0
  go_wp2_with fail
  go_loopg [6, 7, 8, 9, 10, 11, 12] L.length (fun gg ad i p8 x9 x10 x11 x12 wr => ∃ j add D S E, j + gg = L.length ∧ i = .int .i64 (j : Nat) ∧ ad = .int .i64 add ∧ KL.HideAt w c room add D S E wr)
  case atStart => exact ⟨0, 0, [], _, [], by omega, rfl, rfl, HM0.out⟩
  case round =>
    obtain ⟨j, add, D, S, E, hjg, rfl, rfl, hM⟩ := hrel
    have HM := Lib.hid hM
    clear hM
    cases gk with
    | zero =>
      obtain rfl : j = L.length := by omega
      go_wp2_with fail
      go_ret
      exact ⟨rfl, HM.out.below⟩
    | succ gk =>
      have hjl : j < L.length := by omega
      have hj6 : j < 600 := by omega
      have j0' : (0 : Int) ≤ (j : Int) := by omega
      have j1' : (j : Int) < (L.length : Int) := by omega
      obtain ⟨b, off, rfl, -, hop⟩ := HS.out.op HM.out.below hjl
      generalize L[j] = op at hop
      have c0 := hop.c0
      have c1 := hop.c1
      have c2 := hop.c2
      have c3 := hop.c3
      have c4 := hop.c4
      have c5 := hop.c5
      clear hop
      go_upto_region 13 with fail
      generalize hW : wr.alloc (.cells #[.int .i64 op.kind.1, .bool op.second, .string op.name.1, .int .i64 op.n.1, .int .i64 op.v.1, .int .i64 op.stop.1] 33) = W
      obtain ⟨SW, hMW, hBW, hgb⟩ := HM.out.box hW
      have HMW := Lib.hid hMW
      have HBW := Lib.hid hBW
      have HGB := Lib.hid hgb
      obtain ⟨bx, hbx⟩ : ∃ bx, wr.heap.size = bx := ⟨_, rfl⟩
      rw [hbx] at HBW HGB ⊢
      clear hMW hBW hW hbx hgb c0 c1 c2 c3 c4 c5 HM
      have s0 := HBW.out.box.c0
      have s2 := HBW.out.box.c2
      have s3 := HBW.out.box.c3
      have s4 := HBW.out.box.c4
      by_cases hk4 : op.kind.1 = 4
      · have hq4 : (op.kind.1 == 4) = true := by simpa using hk4
        clear hk4
        go_wp2_with fail
        refine (KL.hide_clear HMW.out (wrap64 (wrap64 (add + op.v.1.tmod 7) + 1))).mono ?_
        rintro ex y ⟨rfl, Ey, hy⟩
        have HMy := Lib.hid hy
        clear hy s0 s2 s3 s4
        go_wp2_with fail
        go_roundg gk
        case measure => omega
        case rel => exact ⟨j + 1, _, _, _, _, by omega, by go_num, rfl, HMy.out⟩
      have hq4 : (op.kind.1 == 4) = false := by rw [beq_eq_false_iff_ne]; exact hk4
      clear hk4
      obtain ⟨lk, hl⟩ : ∃ lk, Cc.look (⟨op.name, op.n⟩ : KeyV) D = lk := ⟨_, rfl⟩
      cases lk with
      | some x =>
        have hl' : (Cc.look (⟨op.name, op.n⟩ : KeyV) D).isSome = true := by rw [hl]; rfl
        have hv : KL.valD ⟨op.name, op.n⟩ D = .slice (some ⟨x.blk, 0, none⟩) 2 2 := by unfold KL.valD; rw [hl]
        have HL := Lib.hid hl
        clear hl
        go_wp2_with fail
        refine (KL.hide_get HMW.out ⟨op.name, op.n⟩).mono ?_
        rintro ex y ⟨rfl, ⟨Ey, hy⟩, hTy⟩
        rw [hl', hv]
        have HMy := Lib.hid hy
        have HTy := Lib.hid hTy
        have HBy := Lib.hid (HBW.out.turn hTy)
        clear hy hTy hl' hv s0 s2 s3 s4
        have s0 := HBy.out.box.c0
        have s2 := HBy.out.box.c2
        have s3 := HBy.out.box.c3
        have s4 := HBy.out.box.c4
        have hx := KL.look_mem HL.out
        have HG := Lib.hid ((HMW.out.vals _ hx).turn HTy.out)
        have hbg : bx ≠ x.blk := Ne.symm (HGB.out _ hx)
        have HLK : ∀ y, Cc.look (⟨op.name, op.n⟩ : KeyV) (KL.hitD ⟨op.name, op.n⟩ D) = some y → y = x := fun y hy => by unfold KL.hitD at hy; rw [HL.out, KL.look_cons] at hy; exact (Option.some.inj hy).symm
        clear hx
        have g0 : y.cell? ⟨x.blk, 0, none⟩ = some (.int .i64 (wrap64 (op.n.1.tmod 1000 + add))) := HG.out.c0
        obtain ⟨gx, g1⟩ := HG.out.c1
        go_upto_region 20 with fail
        go_quiet (fail)
        clear g0 g1 s0 s2 s3 s4
        have HMd := Lib.hid (HMy.out.drewN (n := nq))
        have HBd := Lib.hid (HBy.out.drewN (n := nq))
        have HGd := Lib.hid (HG.out.drewN (n := nq))
        obtain ⟨gy, g1⟩ := HGd.out.c1
        have gf := HGd.out.live.frozen 1 none
        obtain ⟨hst, hbst, hgst, hc1⟩ := HMd.out.store HGd.out.notS HGd.out.ge ((j : Int) + 1) HGd.out.c1
        have HMs := Lib.hid hst
        have HBs := Lib.hid (hbst _ _ hbg HBd.out)
        have HGs := Lib.hid (hgst _ _ HGd.out)
        have HC1 := Lib.hid hc1
        clear hst hbst hgst hc1
        go_upto_region 23 with fail
        clear g1 gf
        generalize (y.drewN nq).setCell ⟨x.blk, 1, none⟩ (.int .i64 ((j : Int) + 1)) = Z at HMs HBs HGs HC1 ⊢
        clear HMd HBd HGd HG
        have s0 := HBs.out.box.c0
        have s2 := HBs.out.box.c2
        have s3 := HBs.out.box.c3
        have s4 := HBs.out.box.c4
        cases hl2 : Cc.look (⟨op.name, op.n⟩ : KeyV) (KL.hitD ⟨op.name, op.n⟩ D) with
        | some z =>
          have hz := HLK z hl2
          rw [hz] at hl2
          clear hz
          have hl' : (Cc.look (⟨op.name, op.n⟩ : KeyV) (KL.hitD ⟨op.name, op.n⟩ D)).isSome = true := by rw [hl2]; rfl
          have hv : KL.valD ⟨op.name, op.n⟩ (KL.hitD ⟨op.name, op.n⟩ D) = .slice (some ⟨x.blk, 0, none⟩) 2 2 := by unfold KL.valD; rw [hl2]
          clear hl2 HLK
          go_wp2_with fail
          refine (KL.hide_get HMs.out ⟨op.name, op.n⟩).mono ?_
          rintro ex t ⟨rfl, ⟨Et, ht⟩, hTt⟩
          rw [hl', hv]
          have HMt := Lib.hid ht
          have g1 := (hTt.same (T := fun x => ¬ _) (fun x hx hs => hx hs)).cell HGs.out.notS HC1.out
          clear ht hTt hl' hv s0 s2 s3 s4
          go_wp2_with fail
          go_roundg gk
          case measure => omega
          case rel => exact ⟨j + 1, _, _, _, _, by omega, by go_num, rfl, HMt.out⟩
        | none =>
          have hl' : (Cc.look (⟨op.name, op.n⟩ : KeyV) (KL.hitD ⟨op.name, op.n⟩ D)).isSome = false := by rw [hl2]; rfl
          have hv : KL.valD ⟨op.name, op.n⟩ (KL.hitD ⟨op.name, op.n⟩ D) = .slice none 0 0 := by unfold KL.valD; rw [hl2]
          clear hl2 HLK
          go_wp2_with fail
          refine (KL.hide_get HMs.out ⟨op.name, op.n⟩).mono ?_
          rintro ex t ⟨rfl, ⟨Et, ht⟩, hTt⟩
          rw [hl', hv]
          have HMt := Lib.hid ht
          clear ht hTt hl' hv s0 s2 s3 s4
          go_wp2_with fail
          go_roundg gk
          case measure => omega
          case rel => exact ⟨j + 1, _, _, _, _, by omega, by go_num, rfl, HMt.out⟩
      | none =>
        have hl' : (Cc.look (⟨op.name, op.n⟩ : KeyV) D).isSome = false := by rw [hl]; rfl
        have hv : KL.valD ⟨op.name, op.n⟩ D = .slice none 0 0 := by unfold KL.valD; rw [hl]
        have HL := Lib.hid hl
        clear hl
        go_wp2_with fail
        refine (KL.hide_get HMW.out ⟨op.name, op.n⟩).mono ?_
        rintro ex y ⟨rfl, ⟨Ey, hy⟩, hTy⟩
        rw [hl', hv]
        have HMy := Lib.hid hy
        have HTy := Lib.hid hTy
        have HBy := Lib.hid (HBW.out.turn hTy)
        clear hy hTy hl' hv s0 s2 s3 s4
        have s0 := HBy.out.box.c0
        have s2 := HBy.out.box.c2
        have s3 := HBy.out.box.c3
        have s4 := HBy.out.box.c4
        have hh : KL.hitD ⟨op.name, op.n⟩ D = D := by unfold KL.hitD; rw [HL.out]
        rw [hh] at HMy
        clear hh
        go_upto_region 19 with fail
        generalize hN : y.alloc (.cells #[.int .i64 (wrap64 (op.n.1.tmod 1000 + add)), .int .i64 0] 3) = N
        obtain ⟨SN, hMN, hBN, hGN, hbg⟩ := HMy.out.list HBy.out ⟨op.name, op.n⟩ hN
        have HMN := Lib.hid hMN
        have HBN := Lib.hid hBN
        have HGN := Lib.hid hGN
        clear hN hMN hBN hGN s0 s2 s3 s4
        obtain ⟨g, hg⟩ : ∃ g, y.heap.size = g := ⟨_, rfl⟩
        rw [hg] at HGN hbg ⊢
        clear hg
        have s0 := HBN.out.box.c0
        have s2 := HBN.out.box.c2
        have s3 := HBN.out.box.c3
        have s4 := HBN.out.box.c4
        go_wp2_with fail
        refine (KL.hide_put HMN.out HGN.out hr20).mono ?_
        rintro ex q ⟨rfl, ⟨Eq, hq⟩, hTq⟩
        have HMq := Lib.hid hq
        have HBq := Lib.hid (HBN.out.turn hTq)
        have HG := Lib.hid (HGN.out.turn hTq)
        have HLK : ∀ y, Cc.look (⟨op.name, op.n⟩ : KeyV) (putD room ⟨op.name, op.n⟩ ⟨g⟩ D) = some y → y = ⟨g⟩ := fun y hy => KL.look_put hy
        clear hq hTq s0 s2 s3 s4 HGN HMN HBN HMy HBy HTy
        have s0 := HBq.out.box.c0
        have s2 := HBq.out.box.c2
        have s3 := HBq.out.box.c3
        have s4 := HBq.out.box.c4
        have g0 : q.cell? ⟨g, 0, none⟩ = some (.int .i64 (wrap64 (op.n.1.tmod 1000 + add))) := HG.out.c0
        obtain ⟨gx, g1⟩ := HG.out.c1
        go_upto_region 20 with fail
        go_quiet (fail)
        clear g0 g1 s0 s2 s3 s4
        have HMd := Lib.hid (HMq.out.drewN (n := nq))
        have HBd := Lib.hid (HBq.out.drewN (n := nq))
        have HGd := Lib.hid (HG.out.drewN (n := nq))
        obtain ⟨gy, g1⟩ := HGd.out.c1
        have gf := HGd.out.live.frozen 1 none
        obtain ⟨hst, hbst, hgst, hc1⟩ := HMd.out.store HGd.out.notS HGd.out.ge ((j : Int) + 1) HGd.out.c1
        have HMs := Lib.hid hst
        have HBs := Lib.hid (hbst _ _ hbg HBd.out)
        have HGs := Lib.hid (hgst _ _ HGd.out)
        have HC1 := Lib.hid hc1
        clear hst hbst hgst hc1
        go_upto_region 23 with fail
        clear g1 gf
        generalize (q.drewN nq).setCell ⟨g, 1, none⟩ (.int .i64 ((j : Int) + 1)) = Z at HMs HBs HGs HC1 ⊢
        clear HMd HBd HGd HG
        have s0 := HBs.out.box.c0
        have s2 := HBs.out.box.c2
        have s3 := HBs.out.box.c3
        have s4 := HBs.out.box.c4
        cases hl2 : Cc.look (⟨op.name, op.n⟩ : KeyV) (putD room ⟨op.name, op.n⟩ ⟨g⟩ D) with
        | some z =>
          have hz := HLK z hl2
          rw [hz] at hl2
          clear hz
          have hl' : (Cc.look (⟨op.name, op.n⟩ : KeyV) (putD room ⟨op.name, op.n⟩ ⟨g⟩ D)).isSome = true := by rw [hl2]; rfl
          have hv : KL.valD ⟨op.name, op.n⟩ (putD room ⟨op.name, op.n⟩ ⟨g⟩ D) = .slice (some ⟨g, 0, none⟩) 2 2 := by unfold KL.valD; rw [hl2]
          clear hl2 HLK
          go_wp2_with fail
          refine (KL.hide_get HMs.out ⟨op.name, op.n⟩).mono ?_
          rintro ex t ⟨rfl, ⟨Et, ht⟩, hTt⟩
          rw [hl', hv]
          have HMt := Lib.hid ht
          have g1 := (hTt.same (T := fun x => ¬ _) (fun x hx hs => hx hs)).cell HGs.out.notS HC1.out
          clear ht hTt hl' hv s0 s2 s3 s4
          go_wp2_with fail
          go_roundg gk
          case measure => omega
          case rel => exact ⟨j + 1, _, _, _, _, by omega, by go_num, rfl, HMt.out⟩
        | none =>
          have hl' : (Cc.look (⟨op.name, op.n⟩ : KeyV) (putD room ⟨op.name, op.n⟩ ⟨g⟩ D)).isSome = false := by rw [hl2]; rfl
          have hv : KL.valD ⟨op.name, op.n⟩ (putD room ⟨op.name, op.n⟩ ⟨g⟩ D) = .slice none 0 0 := by unfold KL.valD; rw [hl2]
          clear hl2 HLK
          go_wp2_with fail
          refine (KL.hide_get HMs.out ⟨op.name, op.n⟩).mono ?_
          rintro ex t ⟨rfl, ⟨Et, ht⟩, hTt⟩
          rw [hl', hv]
          have HMt := Lib.hid ht
          clear ht hTt hl' hv s0 s2 s3 s4
          go_wp2_with fail
          go_roundg gk
          case measure => omega
          case rel => exact ⟨j + 1, _, _, _, _, by omega, by go_num, rfl, HMt.out⟩

set_option maxRecDepth 100000 in
theorem lifted (os : Os) (started : os.Started) (H : Type) (enc : TypeId × Value → H) :
    ReturnsInHanded {} Try.checked os 7 .any (Rows.cacheHidesSpec.pre6 enc Try.prog Try.f7 Rows.cacheHidesRow.domain false) (Rows.cacheHidesSpec.post enc Try.prog Try.f7 false true false false) := by
  refine returnsInHanded_of_change (C := Try.checked) own started (by kernel_rfl) Try.func7
    (ChangeSpec.witness6 (enc := enc) (C := Try.checked) false ⟨#[], #[.int .i64 0, .slice none 0 0], []⟩ 8 (by kernel_rfl) (by kernel_rfl) (by kernel_rfl) (by kernel_rfl)) ?_
  intro W base args ds gs before hval0 hW hcnd _
  have hval : ∀ (j : Nat) t v, Try.f7.params[j]? = some t → args[j]? = some v → Value.okWide Try.prog W .any base t v := hval0
  have hW' := hW
  obtain ⟨p, q, hA0, hV, rfl, hfz, hnd⟩ := hW
  have hA : DataW.TrodAll enc Try.prog W 0 (fun _ => true) true Try.f7.params.toList args.toList ds p := hA0
  rw [Try.params7] at hA hval
  obtain ⟨v0, vs0, d0, ds0, p0, q0, hargs, rfl, rfl, h0, r0⟩ := trodAll_cons hA
  obtain ⟨v1, vs1, d1, ds1, p1, q1, rfl, rfl, rfl, h1, r1⟩ := trodAll_cons r0
  obtain ⟨rfl, rfl, rfl⟩ := trodAll_nil r1
  obtain rfl : args = #[v0, v1] := by cases args; simp_all
  obtain ⟨rfl, rfl⟩ := trodVars_none hV
  obtain ⟨a0, rfl, rfl, rfl, w0⟩ := open_int Try.underlying3 (hval 0 3 v0 rfl rfl) h0
  obtain ⟨sa, L, cap, rfl, hlen, hS⟩ := open_script (okWide_slice Try.underlying22 (hval 1 22 v1 rfl rfl)) h1
  clear hA0 hval0
  simp only [List.append_nil, List.nil_append] at hW'
  refine (walk a0 w0 sa L cap hlen W hS).mono fun e W' ⟨he, hg⟩ => ?_
  subst he
  have hshut := (trodAll_cons_mk (shut_int Try.underlying3 w0) (trodAll_cons_mk (again script_readable script_row h1 hg) trodAll_mk0))
  simp only [List.append_nil, List.nil_append] at hshut
  exact ⟨_, rfl, law_post hW' hg (fun _ => (trodAll_cons_mk (shut_bool Try.underlying4 _) trodAll_mk0)) hshut rfl⟩

theorem over : Rows.cacheHidesRow.holds Try.pinned (OpenSpec.ofChange Rows.cacheHidesSpec) :=
  OpenClaim.holds_of_wide 7 Try.f7 rfl rfl rfl rfl rfl rfl rfl ⟨rfl, rfl, rfl, rfl, rfl⟩ rfl rfl rfl rfl rfl (by kernel_rfl) Try.func7 (by kernel_rfl)
    (of_decide_eq_true (by kernel_rfl)) (by unfold Func.isWrapper; first | (rw [if_pos (by decide +kernel)]; kernel_rfl) | (rw [if_neg (by decide +kernel)]; exact ⟨rfl, rfl⟩))
    (fun os started H enc _ => lifted os started H enc)

theorem proved : Rows.CacheHidesSaid :=
  over
#print axioms proved
end Go.Proofs.Yteboancapfgdeaa.cacheHides
