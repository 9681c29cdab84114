/- Proved: crierlaw8.CacheTrue returns true for every input. -/
import Derived.Test.YteboancapfgdeaaRows
import Derived.Test.YteboancapfgdeaaLawPost
import Derived.Test.YteboancapfgdeaaCcScript
import Derived.Test.YteboancapfgdeaaCcTrueAt
import Derived.Test.YteboancapfgdeaaCcKnown
import Derived.WalkKit
import Derived.ProofKit
import Derived.OpenShut
import Derived.BigRegion
import Derived.Shelf.RegionOpen
import Derived.Deep.DeepCutAuto
namespace Go.Proofs.Yteboancapfgdeaa.cacheTrue
open Go.Proofs.Cc Go.Proofs.Yteboancapfgdeaa Go.ChangeShapes Go.WideShapes Go.ChangeAt Go.RowKit
set_option linter.unusedVariables false

theorem own : ownKnob Try.prog.godebug = none := by kernel_rfl

theorem run_max_i {P : Program} (w : World) (ts : Array TypeId) (t : TypeId) (k k' : IntKind) (x y : Int) : (Builtin.max_ ts t #[.int k x, .int k' y]).run P w = .ok (.int k (max x y)) w := by
  have e : (if x < y then y else x) = max x y := by omega
  simp [Builtin.max_, Builtin.max2, e]
theorem run_min_i {P : Program} (w : World) (ts : Array TypeId) (t : TypeId) (k k' : IntKind) (x y : Int) : (Builtin.min_ ts t #[.int k x, .int k' y]).run P w = .ok (.int k (min x y)) w := by
  have e : (if y < x then y else x) = min x y := by omega
  simp [Builtin.min_, Builtin.min2, e]
attribute [local go_sem high] run_max_i run_min_i

theorem infoUse : (Try.prog.info? 77).map (fun i => (i.zero, i.size, i.bytes)) = some (some (.agg #[.string ByteArray.empty, .int .i64 0, .int .i64 0]), 3, 32) := by kernel_rfl


set_option maxHeartbeats 8000000 in
set_option maxRecDepth 1000000 in
theorem walk (a0 : Int) (w0 : (Lit.int .i64 a0).wf = true) (sa : Option Addr) (L : List OpV) (cap : Nat) (hlen : L.length ≤ maxLen) (w : World) (hS : ScriptAt w sa L) :
    Calls Try.prog 6 #[.int .i64 a0, .slice sa L.length cap] w fun e w' => e = .returned (.bool true) ∧ Below w.heap.size w w' := by
  have hmm := @run_makeMap Try.prog
  obtain ⟨i0, hi, hz0, hz1, hz2⟩ := info_parts infoUse
  obtain ⟨room, hroom⟩ : ∃ r : Nat, r = clampN a0 := ⟨_, rfl⟩
  have hrm : min (max a0 0) 1048576 = (room : Int) := by rw [hroom]; unfold clampN; omega
  have hr20 : room ≤ 1048576 := by rw [hroom]; unfold clampN; omega
  have HR := Lib.hid hroom
  have HS := Lib.hid hS
  clear hS hroom
  by_cases h0 : 600 < L.length
  · have d0 : decide (((L.length : Nat) : Int) > 600) = true := by simp; omega
    go_enter Try.func6, Try.ntmps6
    go_wp2_with fail
    refine (known_any w).mono ?_
    rintro ex u1 ⟨rfl, hb1⟩
    have HB1 := Lib.hid hb1
    clear hb1
    go_wp2_with fail
    go_ret
    exact ⟨rfl, HB1.out⟩
  have d0 : decide (((L.length : Nat) : Int) > 600) = false := by simp; omega
  have h600 : L.length ≤ 600 := by omega
  clear h0
  go_enter Try.func6, Try.ntmps6
  go_wp2_with fail
  refine (known_any w).mono ?_
  rintro ex u1 ⟨rfl, hb1⟩
  have HB1 := Lib.hid hb1
  clear hb1
  go_wp2_with fail
  refine (KI.newKI_any (w := u1) a0).mono ?_
  rintro ex u2 ⟨rfl, hC, hb2⟩
  rw [← HR.out] at hC
  obtain ⟨S, hM⟩ := mem_start (w0 := w) HB1.out hb2 hC
  have HM0 := Lib.hid hM
  clear hM hC hb2
  obtain ⟨c, hc⟩ : ∃ c, u1.heap.size = c := ⟨_, rfl⟩
  rw [hc] at HM0 ⊢
  go_upto_region 10 with fail
  generalize hV : u2.alloc (.map #[] 0) = V at HM0 ⊢
  obtain ⟨mb, hmb⟩ : ∃ mb, u2.heap.size = mb := ⟨_, rfl⟩
  rw [hmb] at HM0 ⊢
  clear hV hmb hc
  go_wp2_with fail
  go_loopg [8, 9, 10, 11, 12, 13, 14, 15, 16, 17] L.length (fun gg v i p11 x11 x12 x13 x14 x15 x16 x17 wr => ∃ j D F Us S E, j + gg = L.length ∧ i = .int .i64 (j : Nat) ∧ MemAt w c mb v room D F Us j S E wr ∧ TrueInv room D F (Us.map (·.1)))
  case atStart => exact ⟨0, [], _, [], _, [], by omega, rfl, HM0.out, TrueInv.nil room⟩
  case round =>
    obtain ⟨j, D, F, Us, S, E, hjg, rfl, hM, hI⟩ := hrel
    have HM := Lib.hid hM
    have HI := Lib.hid hI
    obtain ⟨au, cu, rfl⟩ := owns_shape hM.uses
    have hfew := hM.few
    clear hM hI
    cases gk with
    | zero =>
      obtain rfl : j = L.length := by omega
      go_wp2_with fail
      go_ret
      exact ⟨rfl, HM.out.below⟩
    | succ gk =>
      have hjl : j < L.length := by omega
      have hj6 : j < 600 := by omega
      have j0' : (0 : Int) ≤ (j : Int) := by omega
      have j1' : (j : Int) < (L.length : Int) := by omega
      obtain ⟨b, off, rfl, -, hop⟩ := HS.out.op HM.out.below hjl
      generalize L[j] = op at hop
      have c0 := hop.c0
      have c1 := hop.c1
      have c2 := hop.c2
      have c3 := hop.c3
      have c4 := hop.c4
      have c5 := hop.c5
      clear hop
      go_upto_region 15 with fail
      generalize hW : wr.alloc (.cells #[.int .i64 op.kind.1, .bool op.second, .string op.name.1, .int .i64 op.n.1, .int .i64 op.v.1, .int .i64 op.stop.1] 33) = W
      obtain ⟨SW, hMW, hBW⟩ := HM.out.box hW
      have HMW := Lib.hid hMW
      have HBW := Lib.hid hBW
      obtain ⟨bx, hbx⟩ : ∃ bx, wr.heap.size = bx := ⟨_, rfl⟩
      rw [hbx] at HBW ⊢
      clear hMW hBW hW hbx c0 c1 c2 c3 c4 c5 HM
      have s0 := HBW.out.box.c0
      have s2 := HBW.out.box.c2
      have s3 := HBW.out.box.c3
      have s4 := HBW.out.box.c4
      by_cases hk1 : op.kind.1 = 1
      · have hq1 : (op.kind.1 == 1) = true := by simpa using hk1
        clear hk1
        obtain ⟨lk, hl⟩ : ∃ lk, Cc.look (⟨op.name, op.n⟩ : KeyV) D = lk := ⟨_, rfl⟩
        cases lk with
        | some x =>
          have hn : KI.numD ⟨op.name, op.n⟩ D = x.1 := by unfold KI.numD; rw [hl]
          have hs : (Cc.look (⟨op.name, op.n⟩ : KeyV) D).isSome = true := by rw [hl]; rfl
          obtain ⟨pp, qq, hD, hh⟩ := split_look HI.out.nod hl
          have hF : F ⟨op.name, op.n⟩ = some x := HI.out.sub (_, x) (by rw [hD]; simp)
          have hv : valOr F ⟨op.name, op.n⟩ = x.1 := by unfold valOr; rw [hF]
          have hf : (F ⟨op.name, op.n⟩).isSome = true := by rw [hF]; rfl
          have HD := Lib.hid hD
          have HH := Lib.hid hh
          clear hl hD hh hF
          go_wp2_with fail
          refine (mem_get HMW.out ⟨op.name, op.n⟩).mono ?_
          rintro ex y ⟨rfl, Sy, Ey, hmy, hby⟩
          have HMy := Lib.hid hmy
          have HBy := Lib.hid (hby _ _ HBW.out)
          clear hmy hby
          clear s0 s2 s3 s4
          have s0 := HBy.out.box.c0
          have s2 := HBy.out.box.c2
          have s3 := HBy.out.box.c3
          have s4 := HBy.out.box.c4
          rw [hn, hs]
          obtain ⟨nl, -, hL⟩ := HMy.out.laid
          have hlk := hL.look ⟨op.name, op.n⟩
          rw [hv, hf] at hlk
          clear hL hn hs hv hf
          go_upto_region 24 with fail
          clear hlk
          have hownz := HMy.out.uses
          go_wp2_with (at_builtin; refine wpList_append_own_at _ rfl _ _ 72 rfl w.heap.size 77 i0 (.agg #[.string ByteArray.empty, .int .i64 0, .int .i64 0]) 3 32 Try.underlying72 hi hz0 hz1 hz2 rfl (by decide) _ _ _ rfl (hownz.alloc _) ⟨y.heap.size, 0, none⟩ 1 1 [.string op.name.1, .int .i64 op.n.1, .int .i64 (j : Int)] rfl rfl ?c2 ?c3 ?c4 ?c5 ?c6 ?_)
          case c2 => exact cell_newsB _ _ _
          case c3 => simp [Value.oneCell']
          case c4 => unfold maxLen; omega
          case c5 => omega
          case c6 => have := HMy.out.below.size; simp; omega
          intro v' z hownz' hgrowz _ hobz
          obtain ⟨hmz, hbz⟩ := (HMy.out.more (k := j + 1) (by omega)).use (k := ⟨op.name, op.n⟩) (i := (j : Int)) (by omega) hgrowz hownz' (by simpa using hobz)
          obtain ⟨gz, capz, rfl⟩ := owns_some hownz'
          have HMz := Lib.hid hmz
          have HBz := Lib.hid (hbz _ _ HBy.out)
          clear hmz hbz hownz hownz' hgrowz hobz
          clear s0 s2 s3 s4
          have s0 := HBz.out.box.c0
          have s2 := HBz.out.box.c2
          have s3 := HBz.out.box.c3
          have s4 := HBz.out.box.c4
          have HI2 := Lib.hid (show TrueInv room (KI.hitD ⟨op.name, op.n⟩ D) F ((Us ++ [((⟨op.name, op.n⟩ : KeyV), (j : Int))]).map (·.1)) from by rw [HH.out, List.map_append]; exact HI.out.hit HD.out)
          have hln := HI2.out.len
          have HLN := Lib.hid hln
          have hd9 : decide (room < (KI.hitD ⟨op.name, op.n⟩ D).length) = false := by simp <;> omega
          clear hln
          generalize hlen9 : ((KI.hitD ⟨op.name, op.n⟩ D).length : Nat) = dn at hd9
          go_wp2_with fail
          refine (mem_len HMz.out).mono ?_
          rintro ex u9 ⟨rfl, rfl⟩
          rw [hlen9]
          go_wp2_with fail
          refine (mem_len HMz.out).mono ?_
          rintro ex u10 ⟨rfl, rfl⟩
          rw [hlen9]
          go_wp2_with fail
          go_roundg gk
          case measure => omega
          case rel => exact ⟨j + 1, _, _, _, _, _, by omega, by go_num, HMz.out.more (by omega), HI2.out⟩
        | none =>
          have hn : KI.numD ⟨op.name, op.n⟩ D = 0 := by unfold KI.numD; rw [hl]
          have hs : (Cc.look (⟨op.name, op.n⟩ : KeyV) D).isSome = false := by rw [hl]; rfl
          have hh : KI.hitD ⟨op.name, op.n⟩ D = D := by unfold KI.hitD; rw [hl]
          have HNOT := Lib.hid (look_not hl)
          clear hl
          go_wp2_with fail
          refine (mem_get HMW.out ⟨op.name, op.n⟩).mono ?_
          rintro ex y ⟨rfl, Sy, Ey, hmy, hby⟩
          have HMy := Lib.hid hmy
          have HBy := Lib.hid (hby _ _ HBW.out)
          clear hmy hby
          clear s0 s2 s3 s4
          have s0 := HBy.out.box.c0
          have s2 := HBy.out.box.c2
          have s3 := HBy.out.box.c3
          have s4 := HBy.out.box.c4
          rw [hn, hs]
          rw [hh] at HMy
          clear hn hs hh
          obtain ⟨nl, -, hL⟩ := HMy.out.laid
          have hlk := hL.look ⟨op.name, op.n⟩
          clear hL
          obtain ⟨fk, hF⟩ : ∃ fk, F ⟨op.name, op.n⟩ = fk := ⟨_, rfl⟩
          cases fk with
          | none =>
            have hv : valOr F ⟨op.name, op.n⟩ = 0 := by unfold valOr; rw [hF]
            have hf : (F ⟨op.name, op.n⟩).isSome = false := by rw [hF]; rfl
            rw [hv, hf] at hlk
            clear hv hf hF
            go_upto_region 25 with fail
            clear hlk
            obtain ⟨nlz, hnlz, Dlz, hownz, hd1z, hd2z⟩ := HMy.out.laid
            have HDz := Lib.hid (And.intro hd1z hd2z)
            clear hd1z hd2z
            have hkey := keyK (⟨op.name, op.n⟩ : KeyV)
            go_wp2_with (at_delete; refine wpList_delete_own _ rfl _ _ 71 31 rfl 3 (keyedK) Try.underlying71 _ mb _ Dlz rfl hownz _ _ rfl hkey ?_; intro z hownz' hturnz)
            obtain ⟨hmz, hbz⟩ := HMy.out.map hturnz ⟨_, hnlz, laid_del HDz.out.1 HDz.out.2 hownz'⟩
            have HMz := Lib.hid hmz
            have HBz := Lib.hid (hbz _ _ HBy.out)
            clear hmz hbz hownz hownz' hturnz hkey
            clear s0 s2 s3 s4
            have s0 := HBz.out.box.c0
            have s2 := HBz.out.box.c2
            have s3 := HBz.out.box.c3
            have s4 := HBz.out.box.c4
            have HI2 := Lib.hid (HI.out.miss HNOT.out)
            have hln := HI2.out.len
            have HLN := Lib.hid hln
            have hd9 : decide (room < (D).length) = false := by simp <;> omega
            clear hln
            generalize hlen9 : ((D).length : Nat) = dn at hd9
            go_wp2_with fail
            refine (mem_len HMz.out).mono ?_
            rintro ex u9 ⟨rfl, rfl⟩
            rw [hlen9]
            go_wp2_with fail
            refine (mem_len HMz.out).mono ?_
            rintro ex u10 ⟨rfl, rfl⟩
            rw [hlen9]
            go_wp2_with fail
            go_roundg gk
            case measure => omega
            case rel => exact ⟨j + 1, _, _, _, _, _, by omega, by go_num, HMz.out.more (by omega), HI2.out⟩
          | some x =>
            have hv : valOr F ⟨op.name, op.n⟩ = x.1 := by unfold valOr; rw [hF]
            have hf : (F ⟨op.name, op.n⟩).isSome = true := by rw [hF]; rfl
            have hout := HI.out.out ⟨op.name, op.n⟩ hf HNOT.out
            have HOUT := Lib.hid hout
            rw [hv, hf] at hlk
            clear hv hf hF hout
            go_wp2_with fail
            clear hlk
            refine (others_any HMy.out.uses ⟨op.name, op.n⟩ (by have := HMy.out.few; omega)).mono ?_
            rintro ex q ⟨rfl, hbq⟩
            have HMq := Lib.hid (HMy.out.frame hbq)
            have HBq := Lib.hid (HBy.out.frame hbq)
            clear hbq
            clear s0 s2 s3 s4
            have s0 := HBq.out.box.c0
            have s2 := HBq.out.box.c2
            have s3 := HBq.out.box.c3
            have s4 := HBq.out.box.c4
            have hd8 : decide (cnt (Us.map (·.1)) ⟨op.name, op.n⟩ < room) = false := by have := HOUT.out; simp; omega
            generalize (cnt (Us.map (·.1)) ⟨op.name, op.n⟩ : Nat) = cn at hd8
            go_upto_region 25 with fail
            clear hd8
            obtain ⟨nlz, hnlz, Dlz, hownz, hd1z, hd2z⟩ := HMq.out.laid
            have HDz := Lib.hid (And.intro hd1z hd2z)
            clear hd1z hd2z
            have hkey := keyK (⟨op.name, op.n⟩ : KeyV)
            go_wp2_with (at_delete; refine wpList_delete_own _ rfl _ _ 71 31 rfl 3 (keyedK) Try.underlying71 _ mb _ Dlz rfl hownz _ _ rfl hkey ?_; intro z hownz' hturnz)
            obtain ⟨hmz, hbz⟩ := HMq.out.map hturnz ⟨_, hnlz, laid_del HDz.out.1 HDz.out.2 hownz'⟩
            have HMz := Lib.hid hmz
            have HBz := Lib.hid (hbz _ _ HBq.out)
            clear hmz hbz hownz hownz' hturnz hkey
            clear s0 s2 s3 s4
            have s0 := HBz.out.box.c0
            have s2 := HBz.out.box.c2
            have s3 := HBz.out.box.c3
            have s4 := HBz.out.box.c4
            have HI2 := Lib.hid (HI.out.miss HNOT.out)
            have hln := HI2.out.len
            have HLN := Lib.hid hln
            have hd9 : decide (room < (D).length) = false := by simp <;> omega
            clear hln
            generalize hlen9 : ((D).length : Nat) = dn at hd9
            go_wp2_with fail
            refine (mem_len HMz.out).mono ?_
            rintro ex u9 ⟨rfl, rfl⟩
            rw [hlen9]
            go_wp2_with fail
            refine (mem_len HMz.out).mono ?_
            rintro ex u10 ⟨rfl, rfl⟩
            rw [hlen9]
            go_wp2_with fail
            go_roundg gk
            case measure => omega
            case rel => exact ⟨j + 1, _, _, _, _, _, by omega, by go_num, HMz.out.more (by omega), HI2.out⟩
      have hq1 : (op.kind.1 == 1) = false := by rw [beq_eq_false_iff_ne]; exact hk1
      clear hk1
      by_cases hk2 : op.kind.1 = 2
      · have hq2 : (op.kind.1 == 2) = true := by simpa using hk2
        clear hk2
        go_wp2_with fail
        refine (mem_put HMW.out ⟨op.name, op.n⟩ op.v (by have := HI.out.len; omega) hr20).mono ?_
        rintro ex y ⟨rfl, Sy, Ey, hmy, hby⟩
        have HMy := Lib.hid hmy
        have HBy := Lib.hid (hby _ _ HBW.out)
        clear hmy hby
        clear s0 s2 s3 s4
        have s0 := HBy.out.box.c0
        have s2 := HBy.out.box.c2
        have s3 := HBy.out.box.c3
        have s4 := HBy.out.box.c4
        obtain ⟨nl, hnl, Dl, hown, hd1, hd2⟩ := HMy.out.laid
        have HD := Lib.hid (And.intro hd1 hd2)
        have HNL := Lib.hid hnl
        clear hd1 hd2
        have hnm : nl < maxLen := by unfold maxLen; omega
        have hkey := keyK (⟨op.name, op.n⟩ : KeyV)
        clear hnl
        go_upto_region 28 with fail
        go_upto_region 29 with (at_mapUpdate; refine wpList_mapUpdate_in _ rfl _ _ _ 71 rfl 31 3 (keyedK) Try.underlying71 (plainElem Try.prog 3) mb _ Dl rfl hown hnm _ _ (kdK.lit ⟨op.name, op.n⟩) rfl rfl hkey (.lit (.int .i64 op.v.1)) [] (plainElem_int Try.underlying3 op.v.2) ?_; intro z hown3 hturn3)
        obtain ⟨hmz, hbz⟩ := (HMy.out.more (Nat.le_succ j)).map hturn3 ⟨_, Nat.succ_le_succ HNL.out, laid_put hown HD.out.1 HD.out.2 hown3⟩
        have HMz := Lib.hid hmz
        have HBz := Lib.hid (hbz _ _ HBy.out)
        clear hmz hbz hown hown3 hturn3 hkey hnm
        clear s0 s2 s3 s4
        have s0 := HBz.out.box.c0
        have s2 := HBz.out.box.c2
        have s3 := HBz.out.box.c3
        have s4 := HBz.out.box.c4
        have hownq := HMz.out.uses
        go_wp2_with (at_builtin; refine wpList_append_own_at _ rfl _ _ 72 rfl w.heap.size 77 i0 (.agg #[.string ByteArray.empty, .int .i64 0, .int .i64 0]) 3 32 Try.underlying72 hi hz0 hz1 hz2 rfl (by decide) _ _ _ rfl (hownq.alloc _) ⟨z.heap.size, 0, none⟩ 1 1 [.string op.name.1, .int .i64 op.n.1, .int .i64 (j : Int)] rfl rfl ?c2 ?c3 ?c4 ?c5 ?c6 ?_)
        case c2 => exact cell_newsB _ _ _
        case c3 => simp [Value.oneCell']
        case c4 => unfold maxLen; omega
        case c5 => omega
        case c6 => have := HMz.out.below.size; simp; omega
        intro v' q hownq' hgrowq _ hobq
        obtain ⟨hmq, hbq⟩ := (HMz.out.more (k := j + 1) (by omega)).use (k := ⟨op.name, op.n⟩) (i := (j : Int)) (by omega) hgrowq hownq' (by simpa using hobq)
        obtain ⟨gq, capq, rfl⟩ := owns_some hownq'
        have HMq := Lib.hid hmq
        have HBq := Lib.hid (hbq _ _ HBz.out)
        clear hmq hbq hownq hownq' hgrowq hobq
        clear s0 s2 s3 s4
        have s0 := HBq.out.box.c0
        have s2 := HBq.out.box.c2
        have s3 := HBq.out.box.c3
        have s4 := HBq.out.box.c4
        have HI2 := Lib.hid (show TrueInv room (putD room ⟨op.name, op.n⟩ op.v D) (upd F ⟨op.name, op.n⟩ (some op.v)) ((Us ++ [((⟨op.name, op.n⟩ : KeyV), (j : Int))]).map (·.1)) from by rw [List.map_append]; exact HI.out.put ⟨op.name, op.n⟩ op.v)
        have hln := HI2.out.len
        have HLN := Lib.hid hln
        have hd9 : decide (room < (putD room (⟨op.name, op.n⟩ : KeyV) op.v D).length) = false := by simp <;> omega
        clear hln
        generalize hlen9 : ((putD room (⟨op.name, op.n⟩ : KeyV) op.v D).length : Nat) = dn at hd9
        go_wp2_with fail
        refine (mem_len HMq.out).mono ?_
        rintro ex u9 ⟨rfl, rfl⟩
        rw [hlen9]
        go_wp2_with fail
        refine (mem_len HMq.out).mono ?_
        rintro ex u10 ⟨rfl, rfl⟩
        rw [hlen9]
        go_wp2_with fail
        go_roundg gk
        case measure => omega
        case rel => exact ⟨j + 1, _, _, _, _, _, by omega, by go_num, HMq.out.more (by omega), HI2.out⟩
      have hq2 : (op.kind.1 == 2) = false := by rw [beq_eq_false_iff_ne]; exact hk2
      clear hk2
      by_cases hk3 : op.kind.1 = 3
      · have hq3 : (op.kind.1 == 3) = true := by simpa using hk3
        clear hk3
        by_cases hin : (⟨op.name, op.n⟩ : KeyV) ∈ D.map (·.1)
        · have hok : decide ((⟨op.name, op.n⟩ : KeyV) ∈ D.map (·.1)) = true := decide_eq_true hin
          have hf : (F ⟨op.name, op.n⟩).isSome = true := by obtain ⟨q, hq, e⟩ := List.mem_map.1 hin; rw [← e, HI.out.sub q hq]; rfl
          clear hin
          go_wp2_with fail
          refine (mem_drop HMW.out ⟨op.name, op.n⟩).mono ?_
          rintro ex y ⟨rfl, Sy, Ey, hmy, hby⟩
          have HMy := Lib.hid hmy
          have HBy := Lib.hid (hby _ _ HBW.out)
          clear hmy hby
          clear s0 s2 s3 s4
          have s0 := HBy.out.box.c0
          have s2 := HBy.out.box.c2
          have s3 := HBy.out.box.c3
          have s4 := HBy.out.box.c4
          rw [hok]
          obtain ⟨nl, -, hL⟩ := HMy.out.laid
          have hlk := hL.look ⟨op.name, op.n⟩
          rw [hf] at hlk
          clear hL hok hf
          go_upto_region 35 with fail
          clear hlk
          obtain ⟨nlz, hnlz, Dlz, hownz, hd1z, hd2z⟩ := HMy.out.laid
          have HDz := Lib.hid (And.intro hd1z hd2z)
          clear hd1z hd2z
          have hkey := keyK (⟨op.name, op.n⟩ : KeyV)
          go_wp2_with (at_delete; refine wpList_delete_own _ rfl _ _ 71 31 rfl 3 (keyedK) Try.underlying71 _ mb _ Dlz rfl hownz _ _ rfl hkey ?_; intro z hownz' hturnz)
          obtain ⟨hmz, hbz⟩ := HMy.out.map hturnz ⟨_, hnlz, laid_del HDz.out.1 HDz.out.2 hownz'⟩
          have HMz := Lib.hid hmz
          have HBz := Lib.hid (hbz _ _ HBy.out)
          clear hmz hbz hownz hownz' hturnz hkey
          clear s0 s2 s3 s4
          have s0 := HBz.out.box.c0
          have s2 := HBz.out.box.c2
          have s3 := HBz.out.box.c3
          have s4 := HBz.out.box.c4
          have HI2 := Lib.hid (HI.out.drop ⟨op.name, op.n⟩)
          have hln := HI2.out.len
          have HLN := Lib.hid hln
          have hd9 : decide (room < (rmD (⟨op.name, op.n⟩ : KeyV) D).length) = false := by simp <;> omega
          clear hln
          generalize hlen9 : ((rmD (⟨op.name, op.n⟩ : KeyV) D).length : Nat) = dn at hd9
          go_wp2_with fail
          refine (mem_len HMz.out).mono ?_
          rintro ex u9 ⟨rfl, rfl⟩
          rw [hlen9]
          go_wp2_with fail
          refine (mem_len HMz.out).mono ?_
          rintro ex u10 ⟨rfl, rfl⟩
          rw [hlen9]
          go_wp2_with fail
          go_roundg gk
          case measure => omega
          case rel => exact ⟨j + 1, _, _, _, _, _, by omega, by go_num, HMz.out.more (by omega), HI2.out⟩
        have hok : decide ((⟨op.name, op.n⟩ : KeyV) ∈ D.map (·.1)) = false := decide_eq_false hin
        have HIN := Lib.hid hin
        clear hin
        cases hf : (F ⟨op.name, op.n⟩).isSome with
        | false =>
          go_wp2_with fail
          refine (mem_drop HMW.out ⟨op.name, op.n⟩).mono ?_
          rintro ex y ⟨rfl, Sy, Ey, hmy, hby⟩
          have HMy := Lib.hid hmy
          have HBy := Lib.hid (hby _ _ HBW.out)
          clear hmy hby
          clear s0 s2 s3 s4
          have s0 := HBy.out.box.c0
          have s2 := HBy.out.box.c2
          have s3 := HBy.out.box.c3
          have s4 := HBy.out.box.c4
          rw [hok]
          obtain ⟨nl, -, hL⟩ := HMy.out.laid
          have hlk := hL.look ⟨op.name, op.n⟩
          rw [hf] at hlk
          clear hL hok hf
          go_upto_region 35 with fail
          clear hlk
          obtain ⟨nlz, hnlz, Dlz, hownz, hd1z, hd2z⟩ := HMy.out.laid
          have HDz := Lib.hid (And.intro hd1z hd2z)
          clear hd1z hd2z
          have hkey := keyK (⟨op.name, op.n⟩ : KeyV)
          go_wp2_with (at_delete; refine wpList_delete_own _ rfl _ _ 71 31 rfl 3 (keyedK) Try.underlying71 _ mb _ Dlz rfl hownz _ _ rfl hkey ?_; intro z hownz' hturnz)
          obtain ⟨hmz, hbz⟩ := HMy.out.map hturnz ⟨_, hnlz, laid_del HDz.out.1 HDz.out.2 hownz'⟩
          have HMz := Lib.hid hmz
          have HBz := Lib.hid (hbz _ _ HBy.out)
          clear hmz hbz hownz hownz' hturnz hkey
          clear s0 s2 s3 s4
          have s0 := HBz.out.box.c0
          have s2 := HBz.out.box.c2
          have s3 := HBz.out.box.c3
          have s4 := HBz.out.box.c4
          have HI2 := Lib.hid (HI.out.drop ⟨op.name, op.n⟩)
          have hln := HI2.out.len
          have HLN := Lib.hid hln
          have hd9 : decide (room < (rmD (⟨op.name, op.n⟩ : KeyV) D).length) = false := by simp <;> omega
          clear hln
          generalize hlen9 : ((rmD (⟨op.name, op.n⟩ : KeyV) D).length : Nat) = dn at hd9
          go_wp2_with fail
          refine (mem_len HMz.out).mono ?_
          rintro ex u9 ⟨rfl, rfl⟩
          rw [hlen9]
          go_wp2_with fail
          refine (mem_len HMz.out).mono ?_
          rintro ex u10 ⟨rfl, rfl⟩
          rw [hlen9]
          go_wp2_with fail
          go_roundg gk
          case measure => omega
          case rel => exact ⟨j + 1, _, _, _, _, _, by omega, by go_num, HMz.out.more (by omega), HI2.out⟩
        | true =>
          have HOUT := Lib.hid (HI.out.out ⟨op.name, op.n⟩ hf HIN.out)
          go_wp2_with fail
          refine (mem_drop HMW.out ⟨op.name, op.n⟩).mono ?_
          rintro ex y ⟨rfl, Sy, Ey, hmy, hby⟩
          have HMy := Lib.hid hmy
          have HBy := Lib.hid (hby _ _ HBW.out)
          clear hmy hby
          clear s0 s2 s3 s4
          have s0 := HBy.out.box.c0
          have s2 := HBy.out.box.c2
          have s3 := HBy.out.box.c3
          have s4 := HBy.out.box.c4
          rw [hok]
          obtain ⟨nl, -, hL⟩ := HMy.out.laid
          have hlk := hL.look ⟨op.name, op.n⟩
          rw [hf] at hlk
          clear hL hok hf
          go_wp2_with fail
          clear hlk
          refine (others_any HMy.out.uses ⟨op.name, op.n⟩ (by have := HMy.out.few; omega)).mono ?_
          rintro ex q ⟨rfl, hbq⟩
          have HMq := Lib.hid (HMy.out.frame hbq)
          have HBq := Lib.hid (HBy.out.frame hbq)
          clear hbq
          clear s0 s2 s3 s4
          have s0 := HBq.out.box.c0
          have s2 := HBq.out.box.c2
          have s3 := HBq.out.box.c3
          have s4 := HBq.out.box.c4
          have hd8 : decide (cnt (Us.map (·.1)) ⟨op.name, op.n⟩ < room) = false := by have := HOUT.out; simp; omega
          generalize (cnt (Us.map (·.1)) ⟨op.name, op.n⟩ : Nat) = cn at hd8
          go_upto_region 35 with fail
          clear hd8
          obtain ⟨nlz, hnlz, Dlz, hownz, hd1z, hd2z⟩ := HMq.out.laid
          have HDz := Lib.hid (And.intro hd1z hd2z)
          clear hd1z hd2z
          have hkey := keyK (⟨op.name, op.n⟩ : KeyV)
          go_wp2_with (at_delete; refine wpList_delete_own _ rfl _ _ 71 31 rfl 3 (keyedK) Try.underlying71 _ mb _ Dlz rfl hownz _ _ rfl hkey ?_; intro z hownz' hturnz)
          obtain ⟨hmz, hbz⟩ := HMq.out.map hturnz ⟨_, hnlz, laid_del HDz.out.1 HDz.out.2 hownz'⟩
          have HMz := Lib.hid hmz
          have HBz := Lib.hid (hbz _ _ HBq.out)
          clear hmz hbz hownz hownz' hturnz hkey
          clear s0 s2 s3 s4
          have s0 := HBz.out.box.c0
          have s2 := HBz.out.box.c2
          have s3 := HBz.out.box.c3
          have s4 := HBz.out.box.c4
          have HI2 := Lib.hid (HI.out.drop ⟨op.name, op.n⟩)
          have hln := HI2.out.len
          have HLN := Lib.hid hln
          have hd9 : decide (room < (rmD (⟨op.name, op.n⟩ : KeyV) D).length) = false := by simp <;> omega
          clear hln
          generalize hlen9 : ((rmD (⟨op.name, op.n⟩ : KeyV) D).length : Nat) = dn at hd9
          go_wp2_with fail
          refine (mem_len HMz.out).mono ?_
          rintro ex u9 ⟨rfl, rfl⟩
          rw [hlen9]
          go_wp2_with fail
          refine (mem_len HMz.out).mono ?_
          rintro ex u10 ⟨rfl, rfl⟩
          rw [hlen9]
          go_wp2_with fail
          go_roundg gk
          case measure => omega
          case rel => exact ⟨j + 1, _, _, _, _, _, by omega, by go_num, HMz.out.more (by omega), HI2.out⟩
      have hq3 : (op.kind.1 == 3) = false := by rw [beq_eq_false_iff_ne]; exact hk3
      clear hk3
      by_cases hk4 : op.kind.1 = 4
      · have hq4 : (op.kind.1 == 4) = true := by simpa using hk4
        clear hk4
        go_wp2_with fail
        refine (mem_clear HMW.out).mono ?_
        rintro ex y ⟨rfl, Sy, Ey, hmy, hby⟩
        have HMy := Lib.hid hmy
        have HBy := Lib.hid (hby _ _ HBW.out)
        clear hmy hby
        clear s0 s2 s3 s4
        have s0 := HBy.out.box.c0
        have s2 := HBy.out.box.c2
        have s3 := HBy.out.box.c3
        have s4 := HBy.out.box.c4
        obtain ⟨nl, -, hL⟩ := HMy.out.laid
        obtain ⟨z, hrun, hL2, hturn⟩ := hL.clear
        have HMz := Lib.hid (HMy.out.map hturn ⟨0, Nat.zero_le _, hL2⟩).1.nouse
        have HI2 := Lib.hid (TrueInv.nil (K := KeyV) (V := I64) room)
        clear hL hL2 hturn
        clear s0 s2 s3 s4
        go_upto_region 39 with fail
        clear hrun
        have hln := HI2.out.len
        have HLN := Lib.hid hln
        have hd9 : decide (room < ([] : List (KeyV × I64)).length) = false := by simp <;> omega
        clear hln
        generalize hlen9 : (([] : List (KeyV × I64)).length : Nat) = dn at hd9
        go_wp2_with fail
        refine (mem_len HMz.out).mono ?_
        rintro ex u9 ⟨rfl, rfl⟩
        rw [hlen9]
        go_wp2_with fail
        refine (mem_len HMz.out).mono ?_
        rintro ex u10 ⟨rfl, rfl⟩
        rw [hlen9]
        go_wp2_with fail
        go_roundg gk
        case measure => omega
        case rel => exact ⟨j + 1, _, _, _, _, _, by omega, by go_num, HMz.out.more (by omega), HI2.out⟩
      have hq4 : (op.kind.1 == 4) = false := by rw [beq_eq_false_iff_ne]; exact hk4
      clear hk4
      go_upto_region 40 with fail
      clear s0 s2 s3 s4
      have hln := HI.out.len
      have HLN := Lib.hid hln
      have hd9 : decide (room < (D).length) = false := by simp <;> omega
      clear hln
      generalize hlen9 : ((D).length : Nat) = dn at hd9
      go_wp2_with fail
      refine (mem_len HMW.out).mono ?_
      rintro ex u9 ⟨rfl, rfl⟩
      rw [hlen9]
      go_wp2_with fail
      refine (mem_len HMW.out).mono ?_
      rintro ex u10 ⟨rfl, rfl⟩
      rw [hlen9]
      go_wp2_with fail
      go_roundg gk
      case measure => omega
      case rel => exact ⟨j + 1, _, _, _, _, _, by omega, by go_num, HMW.out.more (by omega), HI.out⟩

set_option maxRecDepth 100000 in
theorem lifted (os : Os) (started : os.Started) (H : Type) (enc : TypeId × Value → H) :
    ReturnsInHanded {} Try.checked os 6 .any (Rows.cacheTrueSpec.pre6 enc Try.prog Try.f6 Rows.cacheTrueRow.domain false) (Rows.cacheTrueSpec.post enc Try.prog Try.f6 false true false false) := by
  refine returnsInHanded_of_change (C := Try.checked) own started (by kernel_rfl) Try.func6
    (ChangeSpec.witness6 (enc := enc) (C := Try.checked) false ⟨#[], #[.int .i64 0, .slice none 0 0], []⟩ 8 (by kernel_rfl) (by kernel_rfl) (by kernel_rfl) (by kernel_rfl)) ?_
  intro W base args ds gs before hval0 hW hcnd _
  have hval : ∀ (j : Nat) t v, Try.f6.params[j]? = some t → args[j]? = some v → Value.okWide Try.prog W .any base t v := hval0
  have hW' := hW
  obtain ⟨p, q, hA0, hV, rfl, hfz, hnd⟩ := hW
  have hA : DataW.TrodAll enc Try.prog W 0 (fun _ => true) true Try.f6.params.toList args.toList ds p := hA0
  rw [Try.params6] at hA hval
  obtain ⟨v0, vs0, d0, ds0, p0, q0, hargs, rfl, rfl, h0, r0⟩ := trodAll_cons hA
  obtain ⟨v1, vs1, d1, ds1, p1, q1, rfl, rfl, rfl, h1, r1⟩ := trodAll_cons r0
  obtain ⟨rfl, rfl, rfl⟩ := trodAll_nil r1
  obtain rfl : args = #[v0, v1] := by cases args; simp_all
  obtain ⟨rfl, rfl⟩ := trodVars_none hV
  obtain ⟨a0, rfl, rfl, rfl, w0⟩ := open_int Try.underlying3 (hval 0 3 v0 rfl rfl) h0
  obtain ⟨sa, L, cap, rfl, hlen, hS⟩ := open_script (okWide_slice Try.underlying22 (hval 1 22 v1 rfl rfl)) h1
  clear hA0 hval0
  simp only [List.append_nil, List.nil_append] at hW'
  refine (walk a0 w0 sa L cap hlen W hS).mono fun e W' ⟨he, hg⟩ => ?_
  subst he
  have hshut := (trodAll_cons_mk (shut_int Try.underlying3 w0) (trodAll_cons_mk (again script_readable script_row h1 hg) trodAll_mk0))
  simp only [List.append_nil, List.nil_append] at hshut
  exact ⟨_, rfl, law_post hW' hg (fun _ => (trodAll_cons_mk (shut_bool Try.underlying4 _) trodAll_mk0)) hshut rfl⟩

theorem over : Rows.cacheTrueRow.holds Try.pinned (OpenSpec.ofChange Rows.cacheTrueSpec) :=
  OpenClaim.holds_of_wide 6 Try.f6 rfl rfl rfl rfl rfl rfl rfl ⟨rfl, rfl, rfl, rfl, rfl⟩ rfl rfl rfl rfl rfl (by kernel_rfl) Try.func6 (by kernel_rfl)
    (of_decide_eq_true (by kernel_rfl)) (by unfold Func.isWrapper; first | (rw [if_pos (by decide +kernel)]; kernel_rfl) | (rw [if_neg (by decide +kernel)]; exact ⟨rfl, rfl⟩))
    (fun os started H enc _ => lifted os started H enc)

theorem proved : Rows.CacheTrueSaid :=
  over
#print axioms proved
end Go.Proofs.Yteboancapfgdeaa.cacheTrue
