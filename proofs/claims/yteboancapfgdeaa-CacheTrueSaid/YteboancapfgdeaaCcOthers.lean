/- Proved here: others, how many other keys were used since a key's last use. -/
import Derived.Test.YteboancapfgdeaaCcTrueM
import Derived.Laws.StructEq
import Derived.BigQuiet
import Derived.Maps.OwnOps
namespace Go.Proofs.Yteboancapfgdeaa
open Go.RowKit Go.WideShapes Go.Proofs.Cc

/-- The row of uses: each a key and a number. -/
def urow (U : List (KeyV × Int)) : List Value := U.flatMap (fun u => [.string u.1.name.1, .int .i64 u.1.n.1, .int .i64 u.2])

theorem urow_get : ∀ (U : List (KeyV × Int)) (i : Nat) (u : KeyV × Int), U[i]? = some u → (urow U)[i * 3]? = some (.string u.1.name.1) ∧ (urow U)[i * 3 + 1]? = some (.int .i64 u.1.n.1)
  | [], i, u, h => by simp at h
  | x :: U, 0, u, h => by simp at h; subst h; simp [urow]
  | x :: U, i + 1, u, h => by
    have := urow_get U i u (by simpa using h)
    have e : (i + 1) * 3 = i * 3 + 3 := by omega
    rw [e]
    simpa [urow] using this

def UsesAt (w : World) (base : Nat) (v : Value) (U : List (KeyV × Int)) : Prop := w.ownsRow base 77 3 v U.length (urow U)

theorem UsesAt.open {w : World} {base : Nat} {v : Value} {U : List (KeyV × Int)} (h : UsesAt w base v U) (hU : U ≠ []) : ∃ g cap, v = .slice (some ⟨g, 0, none⟩) U.length cap ∧ U.length ≤ cap ∧ cap ≤ 9223372036854775807 ∧
    ∀ i u, U[i]? = some u → w.cell? ⟨g, i * 3, none⟩ = some (.string u.1.name.1) ∧ w.cell? ⟨g, i * 3 + 1, none⟩ = some (.int .i64 u.1.n.1) := by
  have hr := h
  rcases hr.2 with ⟨_, h0⟩ | ⟨g, cap, cur, rfl, _, _, hc, hm, _, _⟩
  · exact absurd (List.eq_nil_of_length_eq_zero h0) hU
  · refine ⟨g, cap, rfl, hc, hm, fun i u hu => ?_⟩
    have hlt := (List.getElem?_eq_some_iff.1 hu).1
    obtain ⟨g0, g1⟩ := urow_get U i u hu
    exact ⟨(h.cellAt (i * 3) (by omega)).trans g0, (h.cellAt (i * 3 + 1) (by omega)).trans g1⟩

theorem since_all {K : Type} [DecidableEq K] (U : List K) (x : K) (j : Nat) (h : x ∉ U.drop j) : since U x = (U.drop j).reverse ++ since (U.take j) x := by
  have hU : U = U.take j ++ U.drop j := (List.take_append_drop j U).symm
  unfold since
  conv => lhs; rw [hU, List.reverse_append]
  rw [List.takeWhile_append_of_pos]
  intro a ha
  have ha' : a ∈ U.drop j := by simpa using ha
  have : a ≠ x := fun e => h (e ▸ ha')
  simpa using this

theorem since_hit {K : Type} [DecidableEq K] (U : List K) (x : K) (j : Nat) (h : x ∉ U.drop (j + 1)) (hx : U[j]? = some x) : since U x = (U.drop (j + 1)).reverse := by
  rw [since_all U x (j + 1) h, List.take_add_one, hx]
  simp [since]

set_option maxRecDepth 100000 in
set_option maxHeartbeats 2000000 in
theorem others_any {w : World} {base : Nat} {v : Value} {U : List (KeyV × Int)} (hU0 : UsesAt w base v U) (x : KeyV) (hlen : U.length ≤ 10000) :
    Calls Try.prog 30 #[v, keyVal x] w fun ex w' => ex = .returned (.int .i64 (cnt (U.map (·.1)) x : Nat)) ∧ Below w.heap.size w w' := by
  have hmm := @run_makeMap Try.prog
  have H0 := Lib.hid hU0
  have HU' := H0
  obtain ⟨a0, c0, rfl⟩ := owns_shape hU0
  have HU := Lib.hid hU0
  clear hU0 HU'
  go_enter Try.func30, Try.ntmps30
  go_upto_region 1 with fail
  generalize hW : w.alloc (.cells #[.string x.name.1, .int .i64 x.n.1] 31) = W
  obtain ⟨hbw, hsz, x0, x1⟩ := box2 w _ _ _ hW
  have HBW := Lib.hid hbw
  have HUW := Lib.hid (show UsesAt W base (.slice a0 U.length c0) U from ownsRow_same H0.out (Below.toSame hbw (S := fun _ => True)) (fun _ _ => trivial))
  clear hW hbw H0
  go_upto_region 2 with fail
  generalize hV : W.alloc (.map #[] 0) = V
  have hS0 : SeenAt V W.heap.size 0 [] := by rw [← hV]; exact ⟨.map [], World.ownsMap_made _ _ _ _, fun _ => rfl, rfl⟩
  have hbV : Below W.heap.size W V := by rw [← hV]; exact (Below.refl _ _).alloc (Nat.le_refl _) _
  rw [hsz] at hS0
  have HS0 := Lib.hid hS0
  have HBV := Lib.hid hbV
  have HXV := Lib.hid (And.intro ((hbV.cell (World.block_lt_of_cell? W _ x0)).trans x0) ((hbV.cell (World.block_lt_of_cell? W _ x1)).trans x1))
  have HUV := Lib.hid (show UsesAt V base (.slice a0 U.length c0) U from ownsRow_same HUW.out (Below.toSame hbV (S := fun _ => True)) (fun _ _ => trivial))
  have hwW : w.heap.size < W.heap.size := by omega
  clear hV hS0 hbV x0 x1 hsz
  have HB0 := Lib.hid (HBW.out.trans (HBV.out.mono (Nat.le_of_lt hwW)))
  obtain ⟨mb, hmb⟩ : ∃ mb, w.heap.size + 1 = mb := ⟨_, rfl⟩
  have hwm : w.heap.size < mb := by omega
  rw [hmb] at HS0 ⊢
  have hmbV : mb < V.heap.size := by obtain ⟨D, hown, _⟩ := HS0.out; exact hown.lt
  clear hmb HBV HUV HUW HBW hwW
  go_wp2_with fail
  go_loopg [6] U.length (fun gg i wr => ∃ acc n, i = .int .i64 ((gg : Int) - 1) ∧ gg ≤ U.length ∧ n + gg = U.length ∧ acc = ((U.map (·.1)).drop gg).reverse.foldl ins [] ∧ x ∉ (U.map (·.1)).drop gg ∧ SeenAt wr mb n acc ∧ wr.cell? ⟨w.heap.size, 0, none⟩ = some (.string x.name.1) ∧ wr.cell? ⟨w.heap.size, 1, none⟩ = some (.int .i64 x.n.1) ∧ Below w.heap.size w wr)
  case atStart =>
    refine ⟨[], 0, rfl, Nat.le_refl _, by omega, ?_, ?_, HS0.out, HXV.out.1, HXV.out.2, HB0.out⟩
    · rw [List.drop_of_length_le (by simp)]; rfl
    · rw [List.drop_of_length_le (by simp)]; simp
  case round =>
    obtain ⟨acc, n, rfl, hgl, hng, hacc, hno, hseen, x0, x1, hbel⟩ := hrel
    have HNG := Lib.hid (And.intro hng hgl)
    have HACC := Lib.hid hacc
    have HNO := Lib.hid hno
    have HB := Lib.hid hbel
    obtain ⟨D, hown, hd1, hd2⟩ := hseen
    have HD := Lib.hid (And.intro hd1 hd2)
    cases gk with
    | zero =>
      have hz : (((0 : Nat) : Int) - 1) = -1 := rfl
      rw [hz]
      clear hacc hno hbel hd1 hd2 hz
      go_wp2_with (at_len; refine wpList_len_own _ rfl _ 71 rfl 31 3 Try.underlying71 _ mb _ D rfl hown ?_)
      go_wp2_with fail
      go_ret
      refine ⟨ret_int ?_, HB.out⟩
      rw [HD.out.2, HACC.out, List.drop_zero]
      unfold cnt Cc.distinct
      rw [since_all (U.map (·.1)) x 0 (by simpa using HNO.out)]
      simp [since]
    | succ gk =>
      have hgi : (((gk + 1 : Nat) : Int) - 1) = (gk : Int) := by omega
      rw [hgi]
      have hgU : gk < U.length := by omega
      have hne : U ≠ [] := by intro e; rw [e] at hgU; simp at hgU
      obtain ⟨g, cap, hv, hc1, hc2, hcell⟩ := UsesAt.open (show UsesAt wr base (.slice a0 U.length c0) U from ownsRow_same HU.out (Below.toSame hbel (S := fun _ => True)) (fun _ _ => trivial)) hne
      obtain ⟨u, hu⟩ : ∃ u, U[gk]? = some u := ⟨_, List.getElem?_eq_getElem hgU⟩
      obtain ⟨y0, y1⟩ := hcell gk u hu
      injection hv with e1 e2 e3
      subst e1 e3
      have HUU := Lib.hid (show (U.map (·.1))[gk]? = some u.1 by rw [List.getElem?_map, hu]; rfl)
      have i0' : (0 : Int) ≤ (gk : Int) := by omega
      have i1' : (gk : Int) < (U.length : Int) := by omega
      have heq := fun z => eqlK u.1 x z
      clear hacc hno hbel hd1 hd2 hgi hcell hu e2 hng hgl
      cases hc : decide (u.1 = x) with
      | true =>
        simp only [hc] at heq
        have HEX := Lib.hid (of_decide_eq_true hc)
        clear hc
        go_wp2_with fail
        go_quiet (fail)
        go_wp2_with (at_len; refine wpList_len_own _ rfl _ 71 rfl 31 3 Try.underlying71 _ mb _ D rfl (ownsMap_drewN hown nq) ?_)
        go_wp2_with fail
        repeat (first | rw [Exit.noGoto_ret] | simp only [Exit.inBlock] | simp only [Exit.then])
        go_ret
        refine ⟨ret_int ?_, below_drewN HB.out⟩
        rw [HD.out.2, HACC.out]
        unfold cnt Cc.distinct
        rw [since_hit (U.map (·.1)) x gk HNO.out (by rw [HUU.out, HEX.out])]
      | false =>
        simp only [hc] at heq
        have HNE := Lib.hid (of_decide_eq_false hc)
        clear hc
        go_wp2_with fail
        go_quiet (fail)
        have hnm : n < maxLen := by have := HNG.out; unfold maxLen; omega
        have hkey := keyK u.1
        go_wp2_with (at_mapUpdate; refine wpList_mapUpdate_in _ rfl _ _ _ 71 rfl 31 3 (keyedK) Try.underlying71 (plainElem Try.prog 3) mb _ D rfl (ownsMap_drewN hown nq) hnm _ _ (kdK.lit u.1) rfl rfl hkey (.lit (.int .i64 1)) [] (plainElem_int Try.underlying3 (by decide)) ?_; intro w3 hown3 hturn3)
        have hseen3 := seen_put hown HD.out.1 HD.out.2 hown3
        have hg3 := hturn3.grown
        have z0 := hg3.cell (show (wr.drewN nq).cell? ⟨w.heap.size, 0, none⟩ = _ from x0) (fun e => by injection e with e; simp at e; omega)
        have z1 := hg3.cell (show (wr.drewN nq).cell? ⟨w.heap.size, 1, none⟩ = _ from x1) (fun e => by injection e with e; simp at e; omega)
        have HB3 := Lib.hid ((below_drewN (n := nq) HB.out).grown hg3 HB.out.size (fun r e => by injection e with e; omega))
        have HS3 := Lib.hid hseen3
        clear hown3 hturn3 hseen3 hg3 x0 x1 hown
        go_wp2_with fail
        go_roundg gk
        case measure => omega
        case rel =>
          refine ⟨_, n + 1, rfl, by omega, by have := HNG.out; omega, ?_, ?_, HS3.out, z0, z1, HB3.out⟩
          · rw [List.drop_eq_getElem_cons (i := gk) (by simpa using hgU), List.reverse_cons, List.foldl_append, ← HACC.out]
            have := HUU.out
            rw [List.getElem?_eq_getElem (by simpa using hgU)] at this
            injection this with this
            rw [this]
            rfl
          · rw [List.drop_eq_getElem_cons (i := gk) (by simpa using hgU)]
            have := HUU.out
            rw [List.getElem?_eq_getElem (by simpa using hgU)] at this
            injection this with this
            rw [this]
            intro h
            rcases List.mem_cons.1 h with h | h
            · exact HNE.out h.symm
            · exact HNO.out h

end Go.Proofs.Yteboancapfgdeaa
