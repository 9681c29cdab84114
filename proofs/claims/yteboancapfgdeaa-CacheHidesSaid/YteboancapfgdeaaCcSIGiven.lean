/- Proved here: given, what an iterator gives, numbered. -/
import Derived.Test.YteboancapfgdeaaCcSIIter
import Derived.Test.YteboancapfgdeaaCcCodes
import Derived.Test.YteboancapfgdeaaCcCodesS
import Derived.Test.YteboancapfgdeaaCcSame
import Derived.Deep.RegionLaw
import Derived.Deep.AppendLies
namespace Go.Proofs.Yteboancapfgdeaa.SI
open Go.RowKit Go.Proofs.Cc
attribute [local go_sem ↓] Go.wp_at_zero Go.wp_at_succ

/-- The entries, numbered. -/
def codeE {K V : Type} [DecidableEq K] [DecidableEq V] (KL : List K) (VL : List V) (E : List (Ent K V)) : List (Int × Int) := E.map (fun e => (((idx KL e.key : Nat) : Int), ((idx VL e.val : Nat) : Int)))

/-- The cells that given$1 works in. -/
structure GivenAt (w0 : World) (be bw bo bn : Nat) (T : List (Int × Int)) (N : Int) (b : Bool) (n : Nat) (W : World) : Prop where
  turn : Turn (fun x => x = be ∨ x = bo) w0 W
  ended : W.cell? ⟨be, 0, none⟩ = some (.bool (!b))
  well : W.cell? ⟨bw, 0, none⟩ = some (.bool true)
  num : W.cell? ⟨bn, 0, none⟩ = some (.int .i64 N)
  out : ∃ v, W.cell? ⟨bo, 0, none⟩ = some v ∧ W.ownsRow w0.heap.size 120 2 v n (rows (T.take n))
  liveE : Live W be
  liveO : Live W bo
  le : n ≤ T.length
  no : b = true → ∀ j : Nat, 1 ≤ j → j ≤ n → (j : Int) ≠ N
  yes : b = false → (n : Int) = N

theorem cell_news (w : World) (cs : Array Value) (t : TypeId) : ∀ j u, cs.toList[j]? = some u → (w.alloc (.cells cs t)).cell? ((⟨w.heap.size, 0, none⟩ : Addr).add j) = some u := by
  intro j u hj
  rw [add_at]
  have hh := (MapKept.heap_alloc w (.cells cs t)).1
  unfold World.cell?
  simp only
  rw [hh]
  simpa using hj

theorem after_cell {W w1 : World} {o : Obj} {row : Option Nat} {a : Addr} {u : Value} (h : W.cell? a = some u) (hg : (W.drew.alloc o).grownBy w1 row) (hne : some a.block ≠ row) : w1.cell? a = some u :=
  hg.cell ((World.cell?_of_block (w := W) (Below.heap_alloc W.drew o _ (World.block_lt_of_cell? W a h))).trans h) hne

theorem after_live {W w1 : World} {o : Obj} {row : Option Nat} {b : Nat} (h : Live W b) (hg : (W.drew.alloc o).grownBy w1 row) (hne : some b ≠ row) : Live w1 b := by
  have hl := h.lt
  obtain ⟨cs, t, h⟩ := h
  exact ⟨cs, t, (hg.block b (by simp; omega) hne).trans ((Below.heap_alloc W.drew o b hl).trans h)⟩

theorem given_next {w0 W w1 : World} {be bw bo bn : Nat} {T : List (Int × Int)} {N : Int} {n g cap : Nat} {o : Obj} {a1 : Option Addr} {c1 : Nat} {q : Int × Int} (hG : GivenAt w0 be bw bo bn T N true n W) (heo : be ≠ bo)
    (hlt : be < w0.heap.size ∧ bo < w0.heap.size ∧ bw < w0.heap.size ∧ bn < w0.heap.size) (hd : bw ≠ be ∧ bw ≠ bo ∧ bn ≠ be ∧ bn ≠ bo) (hT : T[n]? = some q) (hv : ∀ x, (Value.slice a1 n c1).ownBlock = some x → w0.heap.size ≤ x)
    (hgrow : (W.drew.alloc o).grownBy w1 (Value.slice a1 n c1).ownBlock) (hown : w1.ownsRow w0.heap.size 120 2 (.slice (some ⟨g, 0, none⟩) (n + 1) cap) (n + 1) (rows (T.take n) ++ [.int .i64 q.1, .int .i64 q.2])) :
    (w1.setCell ⟨bo, 0, none⟩ (.slice (some ⟨g, 0, none⟩) (n + 1) cap)).cell? ⟨bo, 0, none⟩ = some (.slice (some ⟨g, 0, none⟩) (n + 1) cap) ∧
    (w1.setCell ⟨bo, 0, none⟩ (.slice (some ⟨g, 0, none⟩) (n + 1) cap)).cell? ⟨bn, 0, none⟩ = some (.int .i64 N) ∧
    (w1.setCell ⟨bo, 0, none⟩ (.slice (some ⟨g, 0, none⟩) (n + 1) cap)).cell? ⟨be, 0, none⟩ = some (.bool false) ∧
    Live (w1.setCell ⟨bo, 0, none⟩ (.slice (some ⟨g, 0, none⟩) (n + 1) cap)) be ∧
    ∀ x : Bool, x = ((n : Int) + 1 == N) → GivenAt w0 be bw bo bn T N (!x) (n + 1) ((w1.setCell ⟨bo, 0, none⟩ (.slice (some ⟨g, 0, none⟩) (n + 1) cap)).setCell ⟨be, 0, none⟩ (.bool x)) := by
  have ne : ∀ b, b < w0.heap.size → some b ≠ (Value.slice a1 n c1).ownBlock := fun b hb e => by have := hv b e.symm; omega
  obtain ⟨u, ho, -⟩ := hG.out
  have o1 := after_cell ho hgrow (ne _ hlt.2.1)
  have n1 := after_cell hG.num hgrow (ne _ hlt.2.2.2)
  have e1 := after_cell hG.ended hgrow (ne _ hlt.1)
  have w1c := after_cell hG.well hgrow (ne _ hlt.2.2.1)
  have le1 := (after_live hG.liveE hgrow (ne _ hlt.1)).setCell ⟨bo, 0, none⟩ (.slice (some ⟨g, 0, none⟩) (n + 1) cap)
  have lo1 := (after_live hG.liveO hgrow (ne _ hlt.2.1)).setCell ⟨bo, 0, none⟩ (.slice (some ⟨g, 0, none⟩) (n + 1) cap)
  have hgl := (hown.lt g rfl).1
  have hnl : n < T.length := (List.getElem?_eq_some_iff.1 hT).1
  refine ⟨cell_set_same o1, (cell_set_other (.inl (Ne.symm hd.2.2.2))).trans n1, (cell_set_other (.inl (Ne.symm heo))).trans e1, le1, fun x hx => ⟨?_, ?_, ?_, ?_, ?_, ?_, ?_, by omega, ?_, ?_⟩⟩
  · refine Turn.setCell (Turn.setCell (((hG.turn.drew).alloc _).grown hgrow (fun b e => .inr (hv b e))) (.inl (.inr rfl)) _) (.inl (.inl rfl)) _
  · rw [Bool.not_not]
    exact cell_set_same ((cell_set_other (.inl (Ne.symm heo))).trans e1)
  · rw [cell_set_other (.inl (Ne.symm hd.1)), cell_set_other (.inl (Ne.symm hd.2.1))]; exact w1c
  · rw [cell_set_other (.inl (Ne.symm hd.2.2.1)), cell_set_other (.inl (Ne.symm hd.2.2.2))]; exact n1
  · refine ⟨.slice (some ⟨g, 0, none⟩) (n + 1) cap, by rw [cell_set_other (.inl heo)]; exact cell_set_same o1, ?_⟩
    have hr : rows (T.take n) ++ [.int .i64 q.1, .int .i64 q.2] = rows (T.take (n + 1)) := by rw [List.take_add_one, hT, rows_app]; rfl
    rw [← hr]
    have hset : ∀ (w : World) (b : Nat) (u : Value), b < w0.heap.size → w.ownsRow w0.heap.size 120 2 (.slice (some ⟨g, 0, none⟩) (n + 1) cap) (n + 1) (rows (T.take n) ++ [.int .i64 q.1, .int .i64 q.2]) → (w.setCell ⟨b, 0, none⟩ u).ownsRow w0.heap.size 120 2 (.slice (some ⟨g, 0, none⟩) (n + 1) cap) (n + 1) (rows (T.take n) ++ [.int .i64 q.1, .int .i64 q.2]) :=
      fun w b u hb h => ownsRow_setCell_below h (a := ⟨b, 0, none⟩) hb u
    exact hset _ _ _ hlt.1 (hset _ _ _ hlt.2.1 hown)
  · exact le1.setCell _ _
  · exact lo1.setCell _ _
  · intro hx2 j h1 h2
    have hxf : x = false := by simpa using hx2
    rw [hxf] at hx
    have hne : (n : Int) + 1 ≠ N := by intro e; rw [e] at hx; simp at hx
    by_cases hj : j ≤ n
    · exact hG.no rfl j h1 hj
    · have : j = n + 1 := by omega
      subst this
      exact fun e => hne (by rw [← e]; omega)
  · intro hx2
    have hxt : x = true := by simpa using hx2
    rw [hxt] at hx
    have := beq_iff_eq.1 hx.symm
    omega

set_option maxRecDepth 100000 in
set_option maxHeartbeats 4000000 in
theorem given1SI_any {w0 : World} {be bw bo bn bp kp vp : Nat} {T : List (Int × Int)} {N : Int} {n : Nat} {W : World} (hG : GivenAt w0 be bw bo bn T N true n W) (heo : be ≠ bo) (hlt : be < w0.heap.size ∧ bo < w0.heap.size ∧ bw < w0.heap.size ∧ bn < w0.heap.size ∧ bp < w0.heap.size)
    (hd : bw ≠ be ∧ bw ≠ bo ∧ bn ≠ be ∧ bn ≠ bo ∧ bp ≠ be ∧ bp ≠ bo) {SK SV : Nat → Prop} {KL : List Str} {VL : List I64} (HK : CodesAt 9 1 kdS zeroS W kp SK KL) (HV : CodesAt 3 1 kdI zeroI W vp SV VL)
    (hpk : W.cell? ⟨bp, 2, none⟩ = some (.pointer (some ⟨kp, 0, none⟩))) (hpv : W.cell? ⟨bp, 3, none⟩ = some (.pointer (some ⟨vp, 0, none⟩))) (k : Str) (v : I64) (hk : k ∈ KL) (hv : v ∈ VL) (hT : T[n]? = some (((idx KL k : Nat) : Int), ((idx VL v : Nat) : Int))) (hlen : T.length ≤ 1048576) :
    Calls Try.prog 133 (#[.string k.1, .int .i64 v.1] ++ #[.pointer (some ⟨be, 0, none⟩), .pointer (some ⟨bw, 0, none⟩), .pointer (some ⟨bo, 0, none⟩), .pointer (some ⟨bp, 0, none⟩), .pointer (some ⟨bn, 0, none⟩)]) W
      fun ex W' => ∃ b, ex = .returned (.bool b) ∧ GivenAt w0 be bw bo bn T N b (n + 1) W' := by
  obtain ⟨i0, hi, hz0, hz1, hz2⟩ := info_parts infoEntry
  obtain ⟨u, ho, hown⟩ := hG.out
  obtain ⟨a1, c1, rfl⟩ := owns_shape hown
  have he := hG.ended
  have hfe := hG.liveE.frozen 0 none
  have hfo := hG.liveO.frozen 0 none
  have HG := Lib.hid hG
  have HOWN := Lib.hid hown
  clear hown hG
  simp only [List.append_toArray, List.cons_append, List.nil_append]
  go_enter Try.func133, Try.ntmps133
  go_wp2_with fail
  have HKD := Lib.hid HK
  have HVD := Lib.hid HV
  have Hk := Lib.hid hk
  have Hv := Lib.hid hv
  have hbase : w0.heap.size ≤ W.heap.size := HG.out.turn.size
  have hnl : n < T.length := (List.getElem?_eq_some_iff.1 hT).1
  have HNE := Lib.hid (show some bo ≠ (Value.slice a1 n c1).ownBlock from fun e => by have := (HOWN.out.lt bo e.symm).1; omega)
  have hoA : (W.alloc (.cells #[.int .i64 ((idx KL k : Nat) : Int), .int .i64 ((idx VL v : Nat) : Int)] 120)).cell? ⟨bo, 0, none⟩ = some (.slice a1 n c1) := (World.cell?_of_block (w := W) (a := ⟨bo, 0, none⟩) (Below.heap_alloc W _ _ (World.block_lt_of_cell? W _ ho))).trans ho
  clear HK HV hk hv
  go_region_law (first
    | (go_simp; go_at_call_of 45 (Value.pointer (some (Addr.mk kp 0 none))); refine (ofS_q (w := W.drew) (HKD.out.frame (w' := W.drew) (fun _ _ _ => rfl)) k Hk.out).mono ?_; rintro ex w1 ⟨rfl, rfl⟩)
    | (go_simp; go_at_call_of 46 (Value.pointer (some (Addr.mk vp 0 none))); refine (ofI_q (w := W.drew) (HVD.out.frame (w' := W.drew) (fun _ _ _ => rfl)) v Hv.out).mono ?_; rintro ex w1 ⟨rfl, rfl⟩)
    | (refine step_append_lies _ (by rfl) _ _ _ (by rfl) w0.heap.size 120 i0 (.agg #[.int .i64 0, .int .i64 0]) 2 16 Try.underlying107 hi hz0 hz1 hz2 rfl (by omega) _ _ _ (by rfl) (HOWN.out.drew.alloc _) ⟨W.heap.size, 0, none⟩ 1 1 [.int .i64 ((idx KL k : Nat) : Int), .int .i64 ((idx VL v : Nat) : Int)] (by rfl) (by rfl) (cell_news _ _ _) (by simp [Value.oneCell']) (by omega) (by unfold maxLen; omega) (by omega) (by simp; omega) (W.heap.size + 1) (by simp) ?_; intro g cap w1 hown1 hgrow hat hlt1; have ho1 := after_cell ho hgrow HNE.out; have hfo1 := (after_live HG.out.liveO hgrow HNE.out).frozen 0 none))
  all_goals
    have hN := given_next HG.out heo ⟨hlt.1, hlt.2.1, hlt.2.2.1, hlt.2.2.2.1⟩ ⟨hd.1, hd.2.1, hd.2.2.1, hd.2.2.2.1⟩ hT (fun x e => (HOWN.out.lt x e).1) hgrow hown1
    obtain ⟨w3, hw3⟩ : ∃ w3, w1.setCell ⟨bo, 0, none⟩ (.slice (some ⟨g, 0, none⟩) (n + 1) cap) = w3 := ⟨_, rfl⟩
    rw [hw3] at hN
    obtain ⟨c1', c2', c3', c4', hN⟩ := hN
    have hfe3 := c4'.frozen 0 none
    have HN := Lib.hid hN
    clear hN c4' hown1 hgrow hat hlt1
    try rw [hw3]
    go_wp2_with fail
    go_ret
    exact ⟨_, rfl, HN.out _ rfl⟩

end Go.Proofs.Yteboancapfgdeaa.SI
