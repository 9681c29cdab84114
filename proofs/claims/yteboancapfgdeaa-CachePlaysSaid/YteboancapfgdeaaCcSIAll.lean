/- Proved here: all, the iterator left, gone through again, and within itself. -/
import Derived.Test.YteboancapfgdeaaCcSIGivenB
namespace Go.Proofs.Yteboancapfgdeaa.SI
open Go.RowKit Go.Proofs.Cc
attribute [local go_sem ↓] Go.wp_at_zero Go.wp_at_succ

theorem run_min_le {P : Program} (w : World) (ts : Array TypeId) (t : TypeId) (k k' : IntKind) (x y : Int) (h : x ≤ y) : (Builtin.min_ ts t #[.int k x, .int k' y]).run P w = .ok (.int k x) w := by
  have e : (if y < x then y else x) = x := by rw [if_neg (by omega)]
  simp [Builtin.min_, Builtin.min2, e]
attribute [local go_sem high] run_min_le

/-- The cells that all$1 works in. -/
structure AllAt (w0 : World) (bw bi : Nat) (n : Nat) (W : World) : Prop where
  turn : Turn (fun x => x = bw ∨ x = bi) w0 W
  well : W.cell? ⟨bw, 0, none⟩ = some (.bool true)
  num : W.cell? ⟨bi, 0, none⟩ = some (.int .i64 n)
  liveW : Live W bw
  liveI : Live W bi

theorem AllAt.drew {w0 W : World} {bw bi n : Nat} (h : AllAt w0 bw bi n W) : AllAt w0 bw bi n W.drew := ⟨h.turn.drew, h.well, h.num, h.liveW, h.liveI⟩

theorem all_same {w0 W W1 : World} {bw bi n k : Nat} (hA : AllAt w0 bw bi n W) (hB : Below W.heap.size W W1) (hwi : bw ≠ bi) : AllAt w0 bw bi n ((W1.drewN k).setCell ⟨bw, 0, none⟩ (.bool true)) := by
  have hs : ∀ b, b < W.heap.size → W1.heap[b]? = W.heap[b]? := fun b hb => hB.block b hb
  have lw := hA.liveW.lt
  have li := hA.liveI.lt
  have cw : (W1.drewN k).cell? ⟨bw, 0, none⟩ = some (.bool true) := (World.cell?_of_block (w := W) (w' := W1) (a := ⟨bw, 0, none⟩) (hs bw lw)).trans hA.well
  have ci : (W1.drewN k).cell? ⟨bi, 0, none⟩ = some (.int .i64 n) := (World.cell?_of_block (w := W) (w' := W1) (a := ⟨bi, 0, none⟩) (hs bi li)).trans hA.num
  have l1 : Live (W1.drewN k) bw := by obtain ⟨cs, t, h⟩ := hA.liveW; exact ⟨cs, t, (hs bw lw).trans h⟩
  have l2 : Live (W1.drewN k) bi := by obtain ⟨cs, t, h⟩ := hA.liveI; exact ⟨cs, t, (hs bi li).trans h⟩
  have hT : Turn (fun x => x = bw ∨ x = bi) w0 (W1.drewN k) := (hA.turn.trans (Turn.of_below hB)).trans ⟨rfl, rfl, rfl, Nat.le_refl _, fun _ _ _ => rfl⟩
  exact ⟨hT.setCell (.inl (.inl rfl)) _, cell_set_same cw, (cell_set_other (.inl hwi)).trans ci, l1.setCell _ _, l2.setCell _ _⟩

theorem all_count {w0 W : World} {bw bi n : Nat} (hA : AllAt w0 bw bi n W) (hwi : bw ≠ bi) : AllAt w0 bw bi (n + 1) (W.setCell ⟨bi, 0, none⟩ (.int .i64 ((n : Int) + 1))) :=
  ⟨hA.turn.setCell (.inl (.inr rfl)) _, (cell_set_other (.inl (Ne.symm hwi))).trans hA.well, cell_set_same hA.num, hA.liveW.setCell _ _, hA.liveI.setCell _ _⟩

theorem rows_open {w : World} {B : Nat} {v : Value} {T : List (Int × Int)} {n : Nat} {p : Int × Int} (h : w.ownsRow B 120 2 v T.length (rows T)) (hn : T[n]? = some p) :
    ∃ g cap, v = .slice (some ⟨g, 0, none⟩) T.length cap ∧ T.length ≤ cap ∧ cap ≤ 9223372036854775807 ∧ w.cell? ⟨g, n * 2, none⟩ = some (.int .i64 p.1) := by
  have hnl := (List.getElem?_eq_some_iff.1 hn).1
  have h' := h
  rcases h.2 with ⟨rfl, h0⟩ | ⟨g, cap, cur, rfl, _, _, hc, hm, _, _⟩
  · omega
  · exact ⟨g, cap, rfl, hc, hm, (h'.cellAt (n * 2) (by omega)).trans (rows_get T n p hn).1⟩

set_option maxRecDepth 100000 in
set_option maxHeartbeats 4000000 in
theorem all1b_any {w0 W : World} {c bx kp vp mp most bp bf bw bi n : Nat} {SC SK SV SM : Nat → Prop} {E : List (Ent Str I64)} {KL : List Str} {VL : List I64} (R : ReadyAt W c bx kp vp SC SK SV most E KL VL) (M : RefAt 120 W mp SM most (codeE KL VL E))
    (hA : AllAt w0 bw bi n W) (hwi : bw ≠ bi) (hp0 : W.cell? ⟨bp, 0, none⟩ = some (.pointer (some ⟨c, 0, none⟩))) (hp1 : W.cell? ⟨bp, 1, none⟩ = some (.pointer (some ⟨mp, 0, none⟩))) (hp2 : W.cell? ⟨bp, 2, none⟩ = some (.pointer (some ⟨kp, 0, none⟩))) (hp3 : W.cell? ⟨bp, 3, none⟩ = some (.pointer (some ⟨vp, 0, none⟩)))
    (hf : W.cell? ⟨bf, 0, none⟩ = some (.func (.func 132) #[] #[.pointer (some ⟨bx, 0, none⟩)])) (hd : bp ≠ bw ∧ bp ≠ bi ∧ mp ≠ bw ∧ mp ≠ bi ∧ bf ≠ bw) (hg : ∀ g, SM g → g ≠ bw) (hlt : bw < w0.heap.size ∧ bi < w0.heap.size) {e : Ent Str I64} (he : E[n]? = some e) (v0 : Value) :
    Calls Try.prog 61 (#[.string e.key.1, v0] ++ #[.pointer (some ⟨bp, 0, none⟩), .pointer (some ⟨bf, 0, none⟩), .pointer (some ⟨bw, 0, none⟩), .pointer (some ⟨bi, 0, none⟩)]) W
      fun ex W' => ∃ b, ex = .returned (.bool b) ∧ AllAt w0 bw bi (n + 1) W' := by
  have HR := Lib.hid R
  have HM := Lib.hid M
  have HA := Lib.hid hA
  have HE := Lib.hid he
  have hwc := hA.well
  have hic := hA.num
  have hTn : (codeE KL VL E)[n]? = some (((idx KL e.key : Nat) : Int), ((idx VL e.val : Nat) : Int)) := by unfold codeE; rw [List.getElem?_map, he]; rfl
  have HTN := Lib.hid hTn
  have hnl := (List.getElem?_eq_some_iff.1 hTn).1
  have HG := Lib.hid hg
  clear R M hA he hTn hg
  simp only [List.append_toArray, List.cons_append, List.nil_append]
  go_enter Try.func61, Try.ntmps61
  go_wp2_with fail
  refine (givenSI_any (mp := mp) HR.out (-1)).mono ?_
  rintro ex W1 ⟨v1, rfl, hown1, hb1⟩
  have hup : upTo (-1) (codeE KL VL E) = codeE KL VL E := by unfold upTo; rw [if_pos (by omega)]
  rw [hup] at hown1
  have HB := Lib.hid hb1
  have cl : ∀ b o u, W.cell? ⟨b, o, none⟩ = some u → W1.cell? ⟨b, o, none⟩ = some u := fun b o u h => (hb1.cell (World.block_lt_of_cell? W _ h)).trans h
  have HO := Lib.hid hown1
  obtain ⟨vm, hmc, hom, hvm⟩ := HM.out.list
  obtain ⟨gm, capm, rfl, hcm1, hcm2, hkc⟩ := rows_open hom HTN.out
  have hgm := hvm gm rfl
  have hgw : gm ≠ bw := HG.out gm hgm.1
  have k1 := cl _ _ _ hp1
  have k2 := cl _ _ _ hp2
  have k3 := cl _ _ _ hmc
  have k4 := cl _ _ _ hic
  have k5 := cl _ _ _ hwc
  have k6 := cl _ _ _ hkc
  have HOM := Lib.hid (ownsRow_same hom (Below.toSame hb1 (S := fun _ => True)) (fun _ _ => trivial))
  have HK1 := Lib.hid (HR.out.keys.frame (Below.toSame hb1))
  have hfw : W1.frozen? ⟨bw, 0, none⟩ = false := by
    have hl := HA.out.liveW
    have hlt := hl.lt
    obtain ⟨cs, t, hl⟩ := hl
    exact Live.frozen (w := W1) ⟨cs, t, (hb1.block bw hlt).trans hl⟩ 0 none
  have Hk := Lib.hid (HR.out.key e (List.mem_of_getElem? HE.out))
  clear cl hown1 hb1 hom hvm hp0 hp1 hp2 hp3 hf hmc hic hwc hkc hgm
  obtain ⟨m, hm⟩ : ∃ m, (codeE KL VL E).length = m + 1 := ⟨(codeE KL VL E).length - 1, by omega⟩
  have HMM := Lib.hid hm
  have HOM2 := Lib.hid (show W1.ownsRow 0 120 2 (.slice (some ⟨gm, 0, none⟩) (m + 1) capm) (codeE KL VL E).length (rows (codeE KL VL E)) from by rw [← hm]; exact HOM.out)
  rw [hm] at k3 hnl hcm1
  clear hm
  have d0 : decide ((n : Int) < ((m : Nat) : Int) + 1) = true := by simp; omega
  have d1 : min (n : Int) ((m : Nat) : Int) = (n : Int) := by omega
  have hwr : IntKind.i64.wrap ((m : Nat) : Int) = ((m : Nat) : Int) := by simp [IntKind.wrap, IntKind.bits, IntKind.signed]; omega
  have d2 : ¬ (((m : Nat) : Int) < (n : Int)) := by omega
  have d5 : ¬ (m < n) := by omega
  have d6 : min n m = n := by omega
  have d7 : (n : Int) ≤ ((m : Nat) : Int) := by omega
  have d8 : n ≤ m := by omega
  have d9 : ¬ (((m : Nat) : Int) + 1 - 1 < (n : Int)) := by omega
  have d10 : min (n : Int) (((m : Nat) : Int) + 1 - 1) = (n : Int) := by omega
  have d3 : (0 : Int) ≤ (n : Int) := by omega
  have d4 : (n : Int) < ((m : Nat) : Int) + 1 := by omega
  obtain ⟨hd1, hd2, hd3, hd4, hd5⟩ := hd
  have HS1 := Lib.hid (show ∀ w' : World, w'.heap = W1.heap → (w'.cell? ⟨bw, 0, none⟩ = some (.bool true) ∧ w'.cell? ⟨bp, 1, none⟩ = some (.pointer (some ⟨mp, 0, none⟩)) ∧ w'.cell? ⟨mp, 1, none⟩ = some (.slice (some ⟨gm, 0, none⟩) (m + 1) capm) ∧ w'.cell? ⟨bi, 0, none⟩ = some (.int .i64 n) ∧ w'.cell? ⟨gm, n * 2, none⟩ = some (.int .i64 ((idx KL e.key : Nat) : Int)) ∧ w'.cell? ⟨bp, 2, none⟩ = some (.pointer (some ⟨kp, 0, none⟩))) from fun w' h => by
    have hc : ∀ a, w'.cell? a = W1.cell? a := fun a => by unfold World.cell?; rw [h]
    simp only [hc]
    exact ⟨k5, k1, k3, k4, k6, k2⟩)
  have HS2 := Lib.hid (show ∀ w' : World, w'.heap = (W1.setCell ⟨bw, 0, none⟩ (.bool true)).heap → (w'.cell? ⟨bw, 0, none⟩ = some (.bool true) ∧ w'.cell? ⟨bp, 1, none⟩ = some (.pointer (some ⟨mp, 0, none⟩)) ∧ w'.cell? ⟨mp, 1, none⟩ = some (.slice (some ⟨gm, 0, none⟩) (m + 1) capm) ∧ w'.cell? ⟨bi, 0, none⟩ = some (.int .i64 n) ∧ w'.cell? ⟨gm, n * 2, none⟩ = some (.int .i64 ((idx KL e.key : Nat) : Int)) ∧ w'.cell? ⟨bp, 2, none⟩ = some (.pointer (some ⟨kp, 0, none⟩))) from fun w' h => by
    have hc : ∀ a, w'.cell? a = (W1.setCell ⟨bw, 0, none⟩ (.bool true)).cell? a := fun a => by unfold World.cell?; rw [h]
    simp only [hc]
    exact ⟨cell_set_same k5, (cell_set_other (.inl (Ne.symm hd1))).trans k1, (cell_set_other (.inl (Ne.symm hd3))).trans k3, (cell_set_other (.inl hwi)).trans k4, (cell_set_other (.inl (Ne.symm hgw))).trans k6, (cell_set_other (.inl (Ne.symm hd1))).trans k2⟩)
  go_wp2_with fail
  go_region_held3 (fun w' => w'.cell? ⟨bw, 0, none⟩ = some (.bool true) ∧ w'.cell? ⟨bp, 1, none⟩ = some (.pointer (some ⟨mp, 0, none⟩)) ∧ w'.cell? ⟨mp, 1, none⟩ = some (.slice (some ⟨gm, 0, none⟩) (m + 1) capm) ∧ w'.cell? ⟨bi, 0, none⟩ = some (.int .i64 n) ∧ w'.cell? ⟨gm, n * 2, none⟩ = some (.int .i64 ((idx KL e.key : Nat) : Int)) ∧ w'.cell? ⟨bp, 2, none⟩ = some (.pointer (some ⟨kp, 0, none⟩)))
    (first
      | exact HS1.out _ rfl
      | exact HS2.out _ rfl)
    (first
      | (go_at_call 60; refine (same_eq (w := W1.drew) (L := codeE KL VL E) (B1 := W.heap.size) (B2 := 0) HO.out.drew HOM2.out.drew).mono ?_; rintro ex W2 ⟨rfl, m2, rfl⟩)
      | (go_at_call 45; refine (ofS_q (HK1.out.frame ?_) e.key Hk.out).mono ?_; exact (fun _ _ _ => rfl); rintro ex W2 ⟨rfl, rfl⟩))
  all_goals
    have hA2 := all_same (k := 1 + m2) HA.out HB.out hwi
    generalize (W1.drewN (1 + m2)).setCell ⟨bw, 0, none⟩ (.bool true) = W2 at hA2 ⊢
    have HA2 := Lib.hid hA2
    have a1 := hA2.well
    have a2 := hA2.num
    have a3 := hA2.liveI.frozen 0 none
    have hn3 : (n : Int) + 1 ≤ 9223372036854775807 := by omega
    clear hA2 k1 k2 k3 k4 k5 k6 hfw HS1 HS2 hwr
    go_wp2_with fail
    go_ret
    exact ⟨_, rfl, all_count HA2.out hwi⟩

end Go.Proofs.Yteboancapfgdeaa.SI
