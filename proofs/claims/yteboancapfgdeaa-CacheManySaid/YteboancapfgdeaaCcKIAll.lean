/- Proved here: all, the iterator left, gone through again, and within itself. -/
import Derived.Test.YteboancapfgdeaaCcKIGivenB
import Derived.Test.YteboancapfgdeaaRgNorm
import Derived.Test.YteboancapfgdeaaCcCodesK
namespace Go.Proofs.Yteboancapfgdeaa.KI
open Go.RowKit Go.Proofs.Cc Go.Proofs.Rg
attribute [local go_sem ↓] Go.wp_at_zero Go.wp_at_succ

theorem run_min_le {P : Program} (w : World) (ts : Array TypeId) (t : TypeId) (k k' : IntKind) (x y : Int) (h : x ≤ y) : (Builtin.min_ ts t #[.int k x, .int k' y]).run P w = .ok (.int k x) w := by
  have e : (if y < x then y else x) = x := by rw [if_neg (by omega)]
  simp [Builtin.min_, Builtin.min2, e]
attribute [local go_sem high] run_min_le

/-- The cells that all$1 works in. -/
structure AllAt (w0 : World) (bw bi : Nat) (n : Nat) (W : World) : Prop where
  turn : Turn (fun x => x = bw ∨ x = bi) w0 W
  well : W.cell? ⟨bw, 0, none⟩ = some (.bool true)
  num : W.cell? ⟨bi, 0, none⟩ = some (.int .i64 n)
  liveW : Live W bw
  liveI : Live W bi

theorem AllAt.drew {w0 W : World} {bw bi n : Nat} (h : AllAt w0 bw bi n W) : AllAt w0 bw bi n W.drew := ⟨h.turn.drew, h.well, h.num, h.liveW, h.liveI⟩

theorem all_same {w0 W W1 : World} {bw bi n k : Nat} (hA : AllAt w0 bw bi n W) (hB : Below W.heap.size W W1) (hwi : bw ≠ bi) : AllAt w0 bw bi n ((W1.drewN k).setCell ⟨bw, 0, none⟩ (.bool true)) := by
  have hs : ∀ b, b < W.heap.size → W1.heap[b]? = W.heap[b]? := fun b hb => hB.block b hb
  have lw := hA.liveW.lt
  have li := hA.liveI.lt
  have cw : (W1.drewN k).cell? ⟨bw, 0, none⟩ = some (.bool true) := (World.cell?_of_block (w := W) (w' := W1) (a := ⟨bw, 0, none⟩) (hs bw lw)).trans hA.well
  have ci : (W1.drewN k).cell? ⟨bi, 0, none⟩ = some (.int .i64 n) := (World.cell?_of_block (w := W) (w' := W1) (a := ⟨bi, 0, none⟩) (hs bi li)).trans hA.num
  have l1 : Live (W1.drewN k) bw := by obtain ⟨cs, t, h⟩ := hA.liveW; exact ⟨cs, t, (hs bw lw).trans h⟩
  have l2 : Live (W1.drewN k) bi := by obtain ⟨cs, t, h⟩ := hA.liveI; exact ⟨cs, t, (hs bi li).trans h⟩
  have hT : Turn (fun x => x = bw ∨ x = bi) w0 (W1.drewN k) := (hA.turn.trans (Turn.of_below hB)).trans ⟨rfl, rfl, rfl, Nat.le_refl _, fun _ _ _ => rfl⟩
  exact ⟨hT.setCell (.inl (.inl rfl)) _, cell_set_same cw, (cell_set_other (.inl hwi)).trans ci, l1.setCell _ _, l2.setCell _ _⟩

theorem all_count {w0 W : World} {bw bi n : Nat} (hA : AllAt w0 bw bi n W) (hwi : bw ≠ bi) : AllAt w0 bw bi (n + 1) (W.setCell ⟨bi, 0, none⟩ (.int .i64 ((n : Int) + 1))) :=
  ⟨hA.turn.setCell (.inl (.inr rfl)) _, (cell_set_other (.inl (Ne.symm hwi))).trans hA.well, cell_set_same hA.num, hA.liveW.setCell _ _, hA.liveI.setCell _ _⟩

theorem rows_open {w : World} {B : Nat} {v : Value} {T : List (Int × Int)} {n : Nat} {p : Int × Int} (h : w.ownsRow B 120 2 v T.length (rows T)) (hn : T[n]? = some p) :
    ∃ g cap, v = .slice (some ⟨g, 0, none⟩) T.length cap ∧ T.length ≤ cap ∧ cap ≤ 9223372036854775807 ∧ w.cell? ⟨g, n * 2, none⟩ = some (.int .i64 p.1) := by
  have hnl := (List.getElem?_eq_some_iff.1 hn).1
  have h' := h
  rcases h.2 with ⟨rfl, h0⟩ | ⟨g, cap, cur, rfl, _, _, hc, hm, _, _⟩
  · omega
  · exact ⟨g, cap, rfl, hc, hm, (h'.cellAt (n * 2) (by omega)).trans (rows_get T n p hn).1⟩

theorem AllAt.below {w0 W W1 : World} {bw bi n : Nat} (h : AllAt w0 bw bi n W) (hb : Below W.heap.size W W1) : AllAt w0 bw bi n W1 :=
  ⟨h.turn.trans (Turn.of_below hb), (hb.cell (World.block_lt_of_cell? W _ h.well)).trans h.well, (hb.cell (World.block_lt_of_cell? W _ h.num)).trans h.num,
    (Below.toSame hb (S := fun _ => True)).live trivial h.liveW, (Below.toSame hb (S := fun _ => True)).live trivial h.liveI⟩

set_option maxRecDepth 100000 in
set_option maxHeartbeats 4000000 in
theorem all1b_any {w0 W0 : World} {c bx kp vp mp most bp bf bw bi n : Nat} {SC SK SV SM : Nat → Prop} {E : List (Ent KeyV I64)} {KL : List KeyV} {VL : List I64} (R : ReadyAt W0 c bx kp vp SC SK SV most E KL VL) (M : RefAt 120 W0 mp SM most (codeE KL VL E))
    (hA : AllAt w0 bw bi n W0) (hwi : bw ≠ bi) (hp0 : W0.cell? ⟨bp, 0, none⟩ = some (.pointer (some ⟨c, 0, none⟩))) (hp1 : W0.cell? ⟨bp, 1, none⟩ = some (.pointer (some ⟨mp, 0, none⟩))) (hp2 : W0.cell? ⟨bp, 2, none⟩ = some (.pointer (some ⟨kp, 0, none⟩))) (hp3 : W0.cell? ⟨bp, 3, none⟩ = some (.pointer (some ⟨vp, 0, none⟩)))
    (hf : W0.cell? ⟨bf, 0, none⟩ = some (.func (.func 154) #[] #[.pointer (some ⟨bx, 0, none⟩)])) {e : Ent KeyV I64} (he : E[n]? = some e) (v0 : Value) :
    Calls Try.prog 109 (#[.agg #[.string e.key.name.1, .int .i64 e.key.n.1], v0] ++ #[.pointer (some ⟨bp, 0, none⟩), .pointer (some ⟨bf, 0, none⟩), .pointer (some ⟨bw, 0, none⟩), .pointer (some ⟨bi, 0, none⟩)]) W0
      fun ex W' => ∃ b, ex = .returned (.bool b) ∧ AllAt w0 bw bi (n + 1) W' := by
  have HR0 := Lib.hid R
  have HM0 := Lib.hid M
  have HA0 := Lib.hid hA
  have HE := Lib.hid he
  have HP := Lib.hid (And.intro hp0 (And.intro hp1 (And.intro hp2 (And.intro hp3 hf))))
  have hTn : (codeE KL VL E)[n]? = some (((idx KL e.key : Nat) : Int), ((idx VL e.val : Nat) : Int)) := by unfold codeE; rw [List.getElem?_map, he]; rfl
  have HTN := Lib.hid hTn
  have hnl := (List.getElem?_eq_some_iff.1 hTn).1
  clear R M hA he hTn hp0 hp1 hp2 hp3 hf
  simp only [List.append_toArray, List.cons_append, List.nil_append]
  go_enter Try.func109, Try.ntmps109
  go_upto_region 1 with fail
  generalize hW : W0.alloc (.cells #[.string e.key.name.1, .int .i64 e.key.n.1] 31) = W
  obtain ⟨hbw, hsz, x0, x1⟩ := box2 W0 _ _ _ hW
  have HR := Lib.hid (HR0.out.below hbw)
  have HM := Lib.hid (HM0.out.frame (Below.toSame hbw))
  have HA := Lib.hid (HA0.out.below hbw)
  have clw : ∀ b o u, W0.cell? ⟨b, o, none⟩ = some u → W.cell? ⟨b, o, none⟩ = some u := fun b o u h => (hbw.cell (World.block_lt_of_cell? W0 _ h)).trans h
  have hp0 := clw _ _ _ HP.out.1
  have hp1 := clw _ _ _ HP.out.2.1
  have hp2 := clw _ _ _ HP.out.2.2.1
  have hp3 := clw _ _ _ HP.out.2.2.2.1
  have hf := clw _ _ _ HP.out.2.2.2.2
  have hwc := HA.out.well
  have hic := HA.out.num
  clear hW hbw clw HR0 HM0 HA0 HP
  go_wp2_with fail
  refine (givenKI_any (mp := mp) HR.out (-1)).mono ?_
  rintro ex W1 ⟨v1, rfl, hown1, hb1⟩
  have hup : upTo (-1) (codeE KL VL E) = codeE KL VL E := by unfold upTo; rw [if_pos (by omega)]
  rw [hup] at hown1
  have cl : ∀ b o u, W.cell? ⟨b, o, none⟩ = some u → W1.cell? ⟨b, o, none⟩ = some u := fun b o u h => (hb1.cell (World.block_lt_of_cell? W _ h)).trans h
  have HO := Lib.hid hown1
  obtain ⟨vm, hmc, hom, hvm⟩ := HM.out.list
  obtain ⟨gm, capm, rfl, hcm1, hcm2, hkc⟩ := rows_open hom HTN.out
  have k1 := regr_cell (cl _ _ _ hp1)
  have k2 := regr_cell (cl _ _ _ hp2)
  have k3 := cl _ _ _ hmc
  have k4 := regr_cell (cl _ _ _ hic)
  have k5 := regr_cell (cl _ _ _ hwc)
  have k6 := regr_cell (cl _ _ _ hkc)
  have k7 := regr_cell (cl _ _ _ x0)
  have k8 := regr_cell (cl _ _ _ x1)
  have HOM := Lib.hid (ownsRow_same hom (Below.toSame hb1 (S := fun _ => True)) (fun _ _ => trivial))
  have HK1 := Lib.hid (HR.out.keys.frame (Below.toSame hb1))
  have HA1 := Lib.hid (HA.out.below hb1)
  have Hk := Lib.hid (HR.out.key e (List.mem_of_getElem? HE.out))
  clear cl hown1 hb1 hom hvm hp0 hp1 hp2 hp3 hf hmc hic hwc hkc x0 x1
  obtain ⟨m, hm⟩ : ∃ m, (codeE KL VL E).length = m + 1 := ⟨(codeE KL VL E).length - 1, by omega⟩
  have HMM := Lib.hid hm
  have HOM2 := Lib.hid (show W1.ownsRow 0 120 2 (.slice (some ⟨gm, 0, none⟩) (m + 1) capm) (codeE KL VL E).length (rows (codeE KL VL E)) from by rw [← hm]; exact HOM.out)
  rw [hm] at k3 hnl hcm1
  replace k3 := regr_cell k3
  clear hm
  have d0 : decide ((n : Int) < ((m : Nat) : Int) + 1) = true := by simp; omega
  have hwr : IntKind.i64.wrap ((m : Nat) : Int) = ((m : Nat) : Int) := by simp [IntKind.wrap, IntKind.bits, IntKind.signed]; omega
  have d7 : (n : Int) ≤ ((m : Nat) : Int) := by omega
  have d8 : n ≤ m := by omega
  have d3 : (0 : Int) ≤ (n : Int) := by omega
  have d4 : (n : Int) < ((m : Nat) : Int) + 1 := by omega
  have d9 : ¬ (((m : Nat) : Int) + 1 - 1 < (n : Int)) := by omega
  have d10 : min (n : Int) (((m : Nat) : Int) + 1 - 1) = (n : Int) := by omega
  have d1 : min (n : Int) ((m : Nat) : Int) = (n : Int) := by omega
  have d2 : ¬ (((m : Nat) : Int) < (n : Int)) := by omega
  have d5 : ¬ (m < n) := by omega
  have d6 : min n m = n := by omega
  go_wp2_with fail
  refine wp_region_norm_below [] [] (List.range 47) [47] [47] (by kernel_rfl) (by kernel_rfl) (fun _ _ d _ _ h => by cases d <;> exact h) ?_
  rw [show List.range 47 = [0, 1, 2, 3, 4, 5, 6, 7, 8, 9, 10, 11, 12, 13, 14, 15, 16, 17, 18, 19, 20, 21, 22, 23, 24, 25, 26, 27, 28, 29, 30, 31, 32, 33, 34, 35, 36, 37, 38, 39, 40, 41, 42, 43, 44, 45, 46] from rfl]
  simp only [pick, List.filterMap_cons, List.filterMap_nil, List.getElem?_toArray, List.getElem?_cons_zero, List.getElem?_cons_succ]
  repeat (first | (with_reducible refine wpQuiet_nil ?_) | quiet_step (first
    | (go_at_call 60; exact Calls.regrown_of ((same_eq (L := codeE KL VL E) (B1 := W.heap.size) (B2 := 0) (ownsRow_same HO.out (Below.toSame (below_regrown W1 _ _) (S := fun _ => True)) (fun _ _ => trivial)) (ownsRow_same HOM2.out (Below.toSame (below_regrown W1 _ _) (S := fun _ => True)) (fun _ _ => trivial))).mono fun _ _ h => ⟨h.1, by obtain ⟨q, h2⟩ := h.2; rw [h2]; exact below_drewN (Below.refl _ _)⟩))
    | (go_at_call 66; exact Calls.regrown_of (ofK_q (HK1.out.frame (Below.toSame (below_regrown W1 _ _))) e.key Hk.out))))
  intro V1 hV1
  change wpList _ _ _ _ _ V1
  have hA1 := HA1.out.below hV1
  have a0 := hA1.well
  have a4 := hA1.liveW.frozen 0 none
  have hA2 : AllAt w0 bw bi n (V1.setCell ⟨bw, 0, none⟩ (.bool true)) :=
    ⟨hA1.turn.setCell (.inl (.inl rfl)) _, cell_set_same hA1.well, (cell_set_other (.inl hwi)).trans hA1.num, hA1.liveW.setCell _ _, hA1.liveI.setCell _ _⟩
  have HA2 := Lib.hid hA2
  have hn3 : (n : Int) + 1 ≤ 9223372036854775807 := by omega
  clear hV1 hA1 hA2 k1 k2 k3 k4 k5 k6 k7 k8 hwr d0 d1 d2 d3 d4 d5 d6 d7 d8 d9 d10
  go_upto_region 3 with fail
  generalize V1.setCell ⟨bw, 0, none⟩ (.bool true) = W2 at HA2 ⊢
  have a1 := HA2.out.well
  have a2 := HA2.out.num
  have a3 := HA2.out.liveI.frozen 0 none
  clear a0 a4
  go_wp2_with fail
  go_ret
  exact ⟨_, rfl, all_count HA2.out hwi⟩

end Go.Proofs.Yteboancapfgdeaa.KI
