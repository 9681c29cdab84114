/- Proved here: given, what an iterator gives, numbered. -/
import Derived.Test.YteboancapfgdeaaCcKIIter
import Derived.Test.YteboancapfgdeaaCcCodes
import Derived.Test.YteboancapfgdeaaCcCodesK
import Derived.Test.YteboancapfgdeaaCcSame
import Derived.Test.YteboancapfgdeaaCcCodesK
import Derived.Test.YteboancapfgdeaaRgNorm
import Derived.Deep.RegionLaw
import Derived.Deep.AppendLies
namespace Go.Proofs.Yteboancapfgdeaa.KI
open Go.RowKit Go.Proofs.Cc Go.Proofs.Rg
attribute [local go_sem ↓] Go.wp_at_zero Go.wp_at_succ

/-- The entries, numbered. -/
def codeE {K V : Type} [DecidableEq K] [DecidableEq V] (KL : List K) (VL : List V) (E : List (Ent K V)) : List (Int × Int) := E.map (fun e => (((idx KL e.key : Nat) : Int), ((idx VL e.val : Nat) : Int)))

/-- The cells that given$1 works in. -/
structure GivenAt (w0 : World) (be bw bo bn : Nat) (T : List (Int × Int)) (N : Int) (b : Bool) (n : Nat) (W : World) : Prop where
  turn : Turn (fun x => x = be ∨ x = bo) w0 W
  ended : W.cell? ⟨be, 0, none⟩ = some (.bool (!b))
  well : W.cell? ⟨bw, 0, none⟩ = some (.bool true)
  num : W.cell? ⟨bn, 0, none⟩ = some (.int .i64 N)
  out : ∃ v, W.cell? ⟨bo, 0, none⟩ = some v ∧ W.ownsRow w0.heap.size 120 2 v n (rows (T.take n))
  liveE : Live W be
  liveO : Live W bo
  le : n ≤ T.length
  no : b = true → ∀ j : Nat, 1 ≤ j → j ≤ n → (j : Int) ≠ N
  yes : b = false → (n : Int) = N

theorem cell_news (w : World) (cs : Array Value) (t : TypeId) : ∀ j u, cs.toList[j]? = some u → (w.alloc (.cells cs t)).cell? ((⟨w.heap.size, 0, none⟩ : Addr).add j) = some u := by
  intro j u hj
  rw [add_at]
  have hh := (MapKept.heap_alloc w (.cells cs t)).1
  unfold World.cell?
  simp only
  rw [hh]
  simpa using hj

theorem after_cell {W w1 : World} {o : Obj} {row : Option Nat} {a : Addr} {u : Value} (h : W.cell? a = some u) (hg : (W.alloc o).grownBy w1 row) (hne : some a.block ≠ row) : w1.cell? a = some u :=
  hg.cell ((World.cell?_of_block (w := W) (Below.heap_alloc W o _ (World.block_lt_of_cell? W a h))).trans h) hne

theorem after_live {W w1 : World} {o : Obj} {row : Option Nat} {b : Nat} (h : Live W b) (hg : (W.alloc o).grownBy w1 row) (hne : some b ≠ row) : Live w1 b := by
  have hl := h.lt
  obtain ⟨cs, t, h⟩ := h
  exact ⟨cs, t, (hg.block b (by simp; omega) hne).trans ((Below.heap_alloc W o b hl).trans h)⟩

theorem given_next {w0 W w1 : World} {be bw bo bn : Nat} {T : List (Int × Int)} {N : Int} {n g cap : Nat} {o : Obj} {a1 : Option Addr} {c1 : Nat} {q : Int × Int} (hG : GivenAt w0 be bw bo bn T N true n W) (heo : be ≠ bo)
    (hlt : be < w0.heap.size ∧ bo < w0.heap.size ∧ bw < w0.heap.size ∧ bn < w0.heap.size) (hd : bw ≠ be ∧ bw ≠ bo ∧ bn ≠ be ∧ bn ≠ bo) (hT : T[n]? = some q) (hv : ∀ x, (Value.slice a1 n c1).ownBlock = some x → w0.heap.size ≤ x)
    (hgrow : (W.alloc o).grownBy w1 (Value.slice a1 n c1).ownBlock) (hown : w1.ownsRow w0.heap.size 120 2 (.slice (some ⟨g, 0, none⟩) (n + 1) cap) (n + 1) (rows (T.take n) ++ [.int .i64 q.1, .int .i64 q.2])) :
    (w1.setCell ⟨bo, 0, none⟩ (.slice (some ⟨g, 0, none⟩) (n + 1) cap)).cell? ⟨bo, 0, none⟩ = some (.slice (some ⟨g, 0, none⟩) (n + 1) cap) ∧
    (w1.setCell ⟨bo, 0, none⟩ (.slice (some ⟨g, 0, none⟩) (n + 1) cap)).cell? ⟨bn, 0, none⟩ = some (.int .i64 N) ∧
    (w1.setCell ⟨bo, 0, none⟩ (.slice (some ⟨g, 0, none⟩) (n + 1) cap)).cell? ⟨be, 0, none⟩ = some (.bool false) ∧
    Live (w1.setCell ⟨bo, 0, none⟩ (.slice (some ⟨g, 0, none⟩) (n + 1) cap)) be ∧
    ∀ x : Bool, x = ((n : Int) + 1 == N) → GivenAt w0 be bw bo bn T N (!x) (n + 1) ((w1.setCell ⟨bo, 0, none⟩ (.slice (some ⟨g, 0, none⟩) (n + 1) cap)).setCell ⟨be, 0, none⟩ (.bool x)) := by
  have ne : ∀ b, b < w0.heap.size → some b ≠ (Value.slice a1 n c1).ownBlock := fun b hb e => by have := hv b e.symm; omega
  obtain ⟨u, ho, -⟩ := hG.out
  have o1 := after_cell ho hgrow (ne _ hlt.2.1)
  have n1 := after_cell hG.num hgrow (ne _ hlt.2.2.2)
  have e1 := after_cell hG.ended hgrow (ne _ hlt.1)
  have w1c := after_cell hG.well hgrow (ne _ hlt.2.2.1)
  have le1 := (after_live hG.liveE hgrow (ne _ hlt.1)).setCell ⟨bo, 0, none⟩ (.slice (some ⟨g, 0, none⟩) (n + 1) cap)
  have lo1 := (after_live hG.liveO hgrow (ne _ hlt.2.1)).setCell ⟨bo, 0, none⟩ (.slice (some ⟨g, 0, none⟩) (n + 1) cap)
  have hgl := (hown.lt g rfl).1
  have hnl : n < T.length := (List.getElem?_eq_some_iff.1 hT).1
  refine ⟨cell_set_same o1, (cell_set_other (.inl (Ne.symm hd.2.2.2))).trans n1, (cell_set_other (.inl (Ne.symm heo))).trans e1, le1, fun x hx => ⟨?_, ?_, ?_, ?_, ?_, ?_, ?_, by omega, ?_, ?_⟩⟩
  · refine Turn.setCell (Turn.setCell ((hG.turn.alloc _).grown hgrow (fun b e => .inr (hv b e))) (.inl (.inr rfl)) _) (.inl (.inl rfl)) _
  · rw [Bool.not_not]
    exact cell_set_same ((cell_set_other (.inl (Ne.symm heo))).trans e1)
  · rw [cell_set_other (.inl (Ne.symm hd.1)), cell_set_other (.inl (Ne.symm hd.2.1))]; exact w1c
  · rw [cell_set_other (.inl (Ne.symm hd.2.2.1)), cell_set_other (.inl (Ne.symm hd.2.2.2))]; exact n1
  · refine ⟨.slice (some ⟨g, 0, none⟩) (n + 1) cap, by rw [cell_set_other (.inl heo)]; exact cell_set_same o1, ?_⟩
    have hr : rows (T.take n) ++ [.int .i64 q.1, .int .i64 q.2] = rows (T.take (n + 1)) := by rw [List.take_add_one, hT, rows_app]; rfl
    rw [← hr]
    have hset : ∀ (w : World) (b : Nat) (u : Value), b < w0.heap.size → w.ownsRow w0.heap.size 120 2 (.slice (some ⟨g, 0, none⟩) (n + 1) cap) (n + 1) (rows (T.take n) ++ [.int .i64 q.1, .int .i64 q.2]) → (w.setCell ⟨b, 0, none⟩ u).ownsRow w0.heap.size 120 2 (.slice (some ⟨g, 0, none⟩) (n + 1) cap) (n + 1) (rows (T.take n) ++ [.int .i64 q.1, .int .i64 q.2]) :=
      fun w b u hb h => ownsRow_setCell_below h (a := ⟨b, 0, none⟩) hb u
    exact hset _ _ _ hlt.1 (hset _ _ _ hlt.2.1 hown)
  · exact le1.setCell _ _
  · exact lo1.setCell _ _
  · intro hx2 j h1 h2
    have hxf : x = false := by simpa using hx2
    rw [hxf] at hx
    have hne : (n : Int) + 1 ≠ N := by intro e; rw [e] at hx; simp at hx
    by_cases hj : j ≤ n
    · exact hG.no rfl j h1 hj
    · have : j = n + 1 := by omega
      subst this
      exact fun e => hne (by rw [← e]; omega)
  · intro hx2
    have hxt : x = true := by simpa using hx2
    rw [hxt] at hx
    have := beq_iff_eq.1 hx.symm
    omega

theorem GivenAt.below {w0 W W1 : World} {be bw bo bn : Nat} {T : List (Int × Int)} {N : Int} {b : Bool} {n : Nat} (h : GivenAt w0 be bw bo bn T N b n W) (hb : Below W.heap.size W W1) : GivenAt w0 be bw bo bn T N b n W1 := by
  have cl : ∀ b o u, W.cell? ⟨b, o, none⟩ = some u → W1.cell? ⟨b, o, none⟩ = some u := fun b o u hu => (hb.cell (World.block_lt_of_cell? W _ hu)).trans hu
  obtain ⟨v, h1, h2⟩ := h.out
  exact ⟨h.turn.trans (Turn.of_below hb), cl _ _ _ h.ended, cl _ _ _ h.well, cl _ _ _ h.num, ⟨v, cl _ _ _ h1, ownsRow_same h2 (Below.toSame hb (S := fun _ => True)) (fun _ _ => trivial)⟩,
    (Below.toSame hb (S := fun _ => True)).live trivial h.liveE, (Below.toSame hb (S := fun _ => True)).live trivial h.liveO, h.le, h.no, h.yes⟩

set_option maxRecDepth 100000 in
set_option maxHeartbeats 4000000 in
theorem given1KI_any {w0 : World} {be bw bo bn bp kp vp : Nat} {T : List (Int × Int)} {N : Int} {n : Nat} {W0 : World} (hG0 : GivenAt w0 be bw bo bn T N true n W0) (heo : be ≠ bo) (hlt : be < w0.heap.size ∧ bo < w0.heap.size ∧ bw < w0.heap.size ∧ bn < w0.heap.size ∧ bp < w0.heap.size)
    (hd : bw ≠ be ∧ bw ≠ bo ∧ bn ≠ be ∧ bn ≠ bo ∧ bp ≠ be ∧ bp ≠ bo) {SK SV : Nat → Prop} {KL : List KeyV} {VL : List I64} (HK0 : CodesAt 31 2 kdK zeroK W0 kp SK KL) (HV0 : CodesAt 3 1 kdI zeroI W0 vp SV VL)
    (hpk0 : W0.cell? ⟨bp, 2, none⟩ = some (.pointer (some ⟨kp, 0, none⟩))) (hpv0 : W0.cell? ⟨bp, 3, none⟩ = some (.pointer (some ⟨vp, 0, none⟩))) (k : KeyV) (v : I64) (hk : k ∈ KL) (hv : v ∈ VL) (hT : T[n]? = some (((idx KL k : Nat) : Int), ((idx VL v : Nat) : Int))) (hlen : T.length ≤ 1048576) :
    Calls Try.prog 155 (#[.agg #[.string k.name.1, .int .i64 k.n.1], .int .i64 v.1] ++ #[.pointer (some ⟨be, 0, none⟩), .pointer (some ⟨bw, 0, none⟩), .pointer (some ⟨bo, 0, none⟩), .pointer (some ⟨bp, 0, none⟩), .pointer (some ⟨bn, 0, none⟩)]) W0
      fun ex W' => ∃ b, ex = .returned (.bool b) ∧ GivenAt w0 be bw bo bn T N b (n + 1) W' := by
  obtain ⟨i0, hi, hz0, hz1, hz2⟩ := info_parts infoEntry
  have H0 := Lib.hid hG0
  have HKD0 := Lib.hid HK0
  have HVD0 := Lib.hid HV0
  have Hk := Lib.hid hk
  have Hv := Lib.hid hv
  have HP := Lib.hid (And.intro hpk0 hpv0)
  have hnl : n < T.length := (List.getElem?_eq_some_iff.1 hT).1
  have HTT := Lib.hid hT
  have hbase0 : w0.heap.size ≤ W0.heap.size := hG0.turn.size
  clear hG0 HK0 HV0 hk hv hpk0 hpv0 hT
  simp only [List.append_toArray, List.cons_append, List.nil_append]
  go_enter Try.func155, Try.ntmps155
  go_upto_region 1 with fail
  generalize hW : W0.alloc (.cells #[.string k.name.1, .int .i64 k.n.1] 31) = W
  obtain ⟨hbw, hsz, x0, x1⟩ := box2 W0 _ _ _ hW
  have cl0 : ∀ b o u, W0.cell? ⟨b, o, none⟩ = some u → W.cell? ⟨b, o, none⟩ = some u := fun b o u hu => (hbw.cell (World.block_lt_of_cell? W0 _ hu)).trans hu
  have HG := Lib.hid (H0.out.below hbw)
  have HKD := Lib.hid (HKD0.out.frame (Below.toSame hbw))
  have HVD := Lib.hid (HVD0.out.frame (Below.toSame hbw))
  have hpk := cl0 _ _ _ HP.out.1
  have hpv := cl0 _ _ _ HP.out.2
  have he := HG.out.ended
  have hbase : w0.heap.size ≤ W.heap.size := by omega
  obtain ⟨u, ho, hown⟩ := HG.out.out
  obtain ⟨a1, c1, rfl⟩ := owns_shape hown
  have HOWN := Lib.hid hown
  clear hW hbw cl0 hown H0 HKD0 HVD0 HP
  go_wp2_with fail
  have z0 := regr_cell x0
  have z1 := regr_cell x1
  have z2 := regr_cell hpk
  have z3 := regr_cell hpv
  have z4 := regr_cell ho
  refine wp_region_norm_below [1, 5, 7] [0, 2, 3, 6] [4, 8, 9] [10, 11, 12] [11, 12] (by kernel_rfl) (by kernel_rfl) (fun _ _ d _ _ h => by cases d <;> exact h) ?_
  simp only [pick, List.filterMap_cons, List.filterMap_nil, List.getElem?_toArray, List.getElem?_cons_zero, List.getElem?_cons_succ]
  repeat (first | (with_reducible refine wpQuiet_nil ?_) | quiet_step (first
    | (go_at_call 66; exact Calls.regrown_of (ofK_q (HKD.out.frame (Below.toSame (below_regrown W _ _))) k Hk.out))
    | (go_at_call 46; exact Calls.regrown_of ((ofI_q (HVD.out.frame (Below.toSame (below_regrown W _ _))) v Hv.out).mono fun _ _ h => ⟨h.1, by rw [h.2]; exact Below.refl _ _⟩))))
  intro V1 hV1
  change wpList _ _ _ _ _ V1
  have HG1 := Lib.hid (HG.out.below hV1)
  have ho1 := (hV1.cell (World.block_lt_of_cell? W _ ho)).trans ho
  have hown1 := ownsRow_same HOWN.out (Below.toSame hV1 (S := fun _ => True)) (fun _ _ => trivial)
  have hb1 : w0.heap.size ≤ V1.heap.size := Nat.le_trans hbase hV1.size
  have hfo := HG1.out.liveO.frozen 0 none
  clear hV1 z0 z1 z2 z3 z4 x0 x1 hpk hpv ho he hbase
  refine wpList_plain rfl (fun K hK => ?_)
  go_simp
  refine hK _ _ ?_
  clear hK K
  refine wpList_append_own_at _ rfl _ _ 107 rfl w0.heap.size 120 i0 (.agg #[.int .i64 0, .int .i64 0]) 2 16 Try.underlying107 hi hz0 hz1 hz2 rfl (by decide) _ _ _ rfl (hown1.alloc _) ⟨V1.heap.size, 0, none⟩ 1 1 [.int .i64 ((idx KL k : Nat) : Int), .int .i64 ((idx VL v : Nat) : Int)] rfl rfl ?c2 ?c3 ?c4 ?c5 ?c6 ?_
  case c2 => exact cell_newsB _ _ _
  case c3 => simp [Value.oneCell']
  case c4 => unfold maxLen; omega
  case c5 => omega
  case c6 => simp; omega
  intro v' w1 hown2 hgrow _ hob
  obtain ⟨g, cap, rfl⟩ := owns_some hown2
  have hN := given_next HG1.out heo ⟨hlt.1, hlt.2.1, hlt.2.2.1, hlt.2.2.2.1⟩ ⟨hd.1, hd.2.1, hd.2.2.1, hd.2.2.2.1⟩ HTT.out (fun x e => (hown1.lt x e).1) hgrow hown2
  have HNE := Lib.hid (show some bo ≠ (Value.slice a1 n c1).ownBlock from fun e => by have := (hown1.lt bo e.symm).1; omega)
  have ho2 := after_cell ho1 hgrow HNE.out
  have hfo2 := (after_live HG1.out.liveO hgrow HNE.out).frozen 0 none
  obtain ⟨w3, hw3⟩ : ∃ w3, w1.setCell ⟨bo, 0, none⟩ (.slice (some ⟨g, 0, none⟩) (n + 1) cap) = w3 := ⟨_, rfl⟩
  rw [hw3] at hN
  obtain ⟨c1', c2', c3', c4', hN⟩ := hN
  have hfe3 := c4'.frozen 0 none
  have HN := Lib.hid hN
  have HW3 := Lib.hid hw3
  clear hN c4' hown1 hgrow hown2 hob hw3 ho1 hfo
  go_upto_region 5 with fail
  rw [HW3.out]
  clear HW3
  go_wp2_with fail
  go_ret
  exact ⟨_, rfl, HN.out _ rfl⟩

end Go.Proofs.Yteboancapfgdeaa.KI
