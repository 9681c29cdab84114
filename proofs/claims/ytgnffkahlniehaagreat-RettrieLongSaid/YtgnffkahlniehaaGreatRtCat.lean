/- Proved here: slices.Grow of nil and slices.Concat of two lists of levels. -/
import Derived.Test.YtgnffkahlniehaaGreatRtPutP
import Derived.Test.YtgnffkahlniehaaGreatGsAll
import Derived.Lib.AppendZerosOnto
namespace Go.Proofs.YtgnffkahlniehaaGreat
open Go Go.RowKit Go.Proofs.Gs Go.Proofs.Tri Go.Proofs.Rt Go.Proofs.Tp

set_option maxHeartbeats 2000000 in
set_option maxRecDepth 100000 in
theorem growS_nil {w : World} {n : Nat} (hn0 : 0 < n) (hn : n ≤ 4000000000) :
    Calls Tryz.prog 83 #[.slice none 0 0, .int .i64 n] w fun e w' => ∃ v, e = .returned v ∧ w'.ownsRow w.heap.size 9 1 v 0 [] ∧ Below w.heap.size w w' := by
  obtain ⟨i0, hi0, hz0, hz1, hz2⟩ := info_parts infoCloS
  have hold : (Builtin.firstCells i0.size 0 (.slice none 0 0)).run Tryz.prog w.drew = .ok (#[] : Array Value) w.drew := run_firstCells_none w.drew i0.size 0 0 0
  obtain ⟨G, hG⟩ : ∃ G, G = grownCap w (0 + n) 0 9 := ⟨_, rfl⟩
  obtain ⟨ROW, hROW⟩ : ∃ ROW : Array Value, ROW = (#[] : Array Value) ++ Builtin.zeroCells (.string ⟨#[]⟩ : Value).cells n ++ Builtin.zeroCells (.string ⟨#[]⟩ : Value).cells (G - (0 + n)) := ⟨_, rfl⟩
  have hrz : ∀ ty, (Builtin.append_ #[31, 3] ty #[.slice none 0 0, .int .i64 (n : Int)]).run Tryz.prog w = .ok (.slice (some ⟨w.heap.size, 0, none⟩) n G) (w.drew.alloc (.cells ROW 9)) := fun ty => by
    have h := Lib.run_append_grow_zeros w 31 3 ty 9 i0 (.string ⟨#[]⟩) .i64 .i64 Tryz.underlying31 Tryz.underlying3 hi0 hz0 none 0 0 [] hold n hn0 (by omega) (by omega) (by omega) (by rw [hz2]; omega) (by rw [hz2]; exact growslice_fits (by omega) (by omega))
    rw [← hG, ← hROW] at h
    rw [Nat.zero_add] at h
    exact h
  have hGn : n ≤ G := by have := grownCap_ge w (0 + n) 0 9; rw [hG]; omega
  have hG63 : G ≤ 9223372036854775807 := by
    have := grownCap_le_maxLen w (0 + n) 0 9 (by unfold maxLen; omega)
    rw [← hG] at this
    unfold maxLen at this
    omega
  have hRl : ROW.size = G := by
    rw [hROW]
    simp [Builtin.zeroCells, Value.cells]
    omega
  obtain ⟨W1, hW1⟩ : ∃ W1, W1 = w.drew.alloc (.cells ROW 9) := ⟨_, rfl⟩
  have hg1 : W1.heap[w.heap.size]? = some (.cells ROW 9 (0, 0)) := by rw [hW1]; exact (MapKept.heap_alloc w.drew _).1
  have hgr1 : Below w.heap.size w W1 := by
    rw [hW1]
    exact ((Below.refl _ w).drew).alloc (Nat.le_refl _) _
  have hgt : (0 : Int) < (n : Int) := by omega
  have hng : ¬ ((n : Int) < 0) := by omega
  have hd1 : decide ((n : Int) < 0) = false := decide_eq_false hng
  have hd2 : decide ((0 : Int) < (n : Int)) = true := decide_eq_true hgt
  have HG1 := Lib.hid hg1
  have HGR := Lib.hid hgr1
  have HRL := Lib.hid hRl
  rw [← hW1] at hrz
  clear hold hG hROW hRl hW1 hg1 hgr1 hi0 hz0 hz1 hz2
  go_enter Tryz.func83, Tryz.ntmps83
  go_wp2_with (at_builtin; refine Lib.wpList_append_run _ rfl _ _ _ _ rfl _ _ rfl rfl _ _ (hrz _) ?_)
  go_ret
  refine ⟨_, rfl, ⟨by simp, .inr ⟨w.heap.size, G, ROW, rfl, Nat.le_refl _, HG1.out, Nat.zero_le _, by unfold maxLen; omega, by rw [HRL.out, Nat.mul_one], by simp⟩⟩, HGR.out⟩

set_option maxHeartbeats 4000000 in
set_option maxRecDepth 100000 in
/-- Two lists of levels, neither empty, one behind the other. -/
theorem concat2_any {w : World} {cb cc : Nat} {v1 v2 : Value} {L1 L2 : List ByteArray} (h0 : w.cell? ⟨cb, 0, none⟩ = some v1) (h1 : w.cell? ⟨cb, 1, none⟩ = some v2) (hcc : 2 ≤ cc) (hs1 : StrsAt w v1 L1) (hs2 : StrsAt w v2 L2) (hn1 : L1 ≠ []) (hn2 : L2 ≠ []) (hl1 : L1.length ≤ 1000000001) (hl2 : L2.length ≤ 1000000001) :
    Calls Tryz.prog 63 #[.slice (some ⟨cb, 0, none⟩) 2 cc] w fun e w' => ∃ v, e = .returned v ∧ w'.ownsRow w.heap.size 9 1 v (L1 ++ L2).length ((L1 ++ L2).map Value.string) ∧ Below w.heap.size w w' := by
  obtain ⟨i0, hi0, hz0, hz1, hz2⟩ := info_parts infoCloS
  obtain ⟨b1, o1, c1, rfl, p1, p2, p3, p4⟩ := hs1.open (List.length_pos_iff.2 hn1)
  obtain ⟨b2, o2, c2, rfl, q1, q2, q3, q4⟩ := hs2.open (List.length_pos_iff.2 hn2)
  have hL1 : 0 < L1.length := List.length_pos_iff.2 hn1
  have hL2 : 0 < L2.length := List.length_pos_iff.2 hn2
  have hcb : cb < w.heap.size := World.block_lt_of_cell? w _ h0
  obtain ⟨n1, e1⟩ : ∃ n, L1.length = n := ⟨_, rfl⟩
  obtain ⟨n2, e2⟩ : ∃ n, L2.length = n := ⟨_, rfl⟩
  have hX1 : (L1.map Value.string).length = n1 * 1 := by simp [e1]
  have hX2 : (L2.map Value.string).length = n2 * 1 := by simp [e2]
  have k1 : ∀ W, Below w.heap.size w W → ∀ j u, (L1.map Value.string)[j]? = some u → W.cell? ((⟨b1, o1, none⟩ : Addr).add j) = some u := fun W hW j u hu => by
    rw [Addr.add_lit]
    rw [List.getElem?_map] at hu
    cases hx : L1[j]? with
    | none => rw [hx] at hu; simp at hu
    | some x => rw [hx] at hu; simp at hu; subst hu; exact cell_below hW (p4 j x hx)
  have k2 : ∀ W, Below w.heap.size w W → ∀ j u, (L2.map Value.string)[j]? = some u → W.cell? ((⟨b2, o2, none⟩ : Addr).add j) = some u := fun W hW j u hu => by
    rw [Addr.add_lit]
    rw [List.getElem?_map] at hu
    cases hx : L2[j]? with
    | none => rw [hx] at hu; simp at hu
    | some x => rw [hx] at hu; simp at hu; subst hu; exact cell_below hW (q4 j x hx)
  have HK1 := Lib.hid k1
  have HK2 := Lib.hid k2
  have HX1 := Lib.hid hX1
  have HX2 := Lib.hid hX2
  have HE1 := Lib.hid e1
  have HE2 := Lib.hid e2
  have H0 := Lib.hid h0
  have H1 := Lib.hid h1
  rw [e1] at h0 hL1 hl1 p1
  rw [e2] at h1 hL2 hl2 q1
  rw [e1] at H0
  rw [e2] at H1
  rw [List.length_append, e1, e2]
  have hc1 : (1 : Int) < 2 := by decide
  clear k1 k2 hX1 hX2 e1 e2 hs1 hs2 p4 q4 hn1 hn2 p3 q3
  go_enter Tryz.func63, Tryz.ntmps63
  go_wp2_with fail
  go_loopg [3, 5, 11] 2 (fun g s x i wr => (g = 2 ∧ s = .int .i64 0 ∧ i = .int .i64 0 ∧ w = wr) ∨ (g = 1 ∧ s = .int .i64 n1 ∧ i = .int .i64 1 ∧ w = wr) ∨ (g = 0 ∧ s = .int .i64 ((n1 : Int) + n2) ∧ i = .int .i64 2 ∧ w = wr))
  case atStart => exact .inl ⟨rfl, rfl, rfl, rfl⟩
  case round =>
    rcases hrel with ⟨rfl, rfl, rfl, rfl⟩ | ⟨rfl, rfl, rfl, rfl⟩ | ⟨rfl, rfl, rfl, rfl⟩
    · have hd : decide ((n1 : Int) < 0) = false := decide_eq_false (by omega)
      have hd2 : ¬ ((n1 : Int) < 0) := by omega
      go_wp2_with fail
      go_roundg 1
      case measure => omega
      case rel => exact .inr (.inl ⟨rfl, rfl, rfl, rfl⟩)
    · have hd : decide ((n1 : Int) + (n2 : Int) < 0) = false := decide_eq_false (by omega)
      have hd2 : ¬ ((n1 : Int) + (n2 : Int) < 0) := by omega
      have hb3 : (n1 : Int) + (n2 : Int) ≤ 4000000000 := by omega
      go_wp2_with fail
      go_roundg 0
      case measure => omega
      case rel => exact .inr (.inr ⟨rfl, rfl, rfl, rfl⟩)
    · have hgr : Calls Tryz.prog 83 #[.slice none 0 0, .int .i64 ((n1 : Int) + (n2 : Int))] w fun e w' => ∃ v, e = .returned v ∧ w'.ownsRow w.heap.size 9 1 v 0 [] ∧ Below w.heap.size w w' := by
        have h := growS_nil (w := w) (n := n1 + n2) (by omega) (by omega)
        rwa [show ((n1 + n2 : Nat) : Int) = (n1 : Int) + (n2 : Int) by omega] at h
      go_wp2_with fail
      refine hgr.mono ?_
      rintro e w1 ⟨v, rfl, hown, hb⟩
      have HOW := Lib.hid hown
      have HB := Lib.hid hb
      clear hown hb hgr h0 h1
      go_wp2_with fail
      go_loopg [6, 8, 27] 2 (fun g v x i wr => (g = 2 ∧ i = .int .i64 0 ∧ wr.ownsRow w.heap.size 9 1 v 0 [] ∧ Below w.heap.size w wr) ∨ (g = 1 ∧ i = .int .i64 1 ∧ wr.ownsRow w.heap.size 9 1 v n1 (L1.map Value.string) ∧ Below w.heap.size w wr) ∨ (g = 0 ∧ i = .int .i64 2 ∧ wr.ownsRow w.heap.size 9 1 v (n1 + n2) ((L1 ++ L2).map Value.string) ∧ Below w.heap.size w wr))
      case atStart => exact .inl ⟨rfl, rfl, HOW.out, HB.out⟩
      case round =>
        rcases hrel with ⟨rfl, rfl, ho, hbw⟩ | ⟨rfl, rfl, ho, hbw⟩ | ⟨rfl, rfl, ho, hbw⟩
        · have HO := Lib.hid ho
          have HBW := Lib.hid hbw
          have x0 := cell_below hbw H0.out
          have HK := Lib.hid (HK1.out _ hbw)
          clear ho hbw
          go_wp2_with (at_builtin; refine wpList_append_own _ rfl _ _ 31 rfl w.heap.size 9 i0 (.string ⟨#[]⟩) 1 16 Tryz.underlying31 hi0 hz0 hz1 hz2 rfl (by decide) _ _ _ rfl HO.out ⟨b1, o1, none⟩ n1 c1 (L1.map Value.string) rfl HX1.out HK.out (str_one L1) ?c2 ?c3 ?c4 ?_)
          case c2 => unfold maxLen; omega
          case c3 => omega
          case c4 => exact HBW.out.size
          intro v' w2 hown2 hgrow _
          have H2 := Lib.hid hown2
          have H3 := Lib.hid hgrow
          clear hown2 hgrow
          go_wp2_with fail
          go_roundg 1
          case measure => omega
          case rel => exact .inr (.inl ⟨rfl, rfl, H2.out, HBW.out.grown H3.out HBW.out.size (fun g e => (HO.out.lt g e).1)⟩)
        · have HO := Lib.hid ho
          have HBW := Lib.hid hbw
          have x0 := cell_below hbw H1.out
          have HK := Lib.hid (HK2.out _ hbw)
          clear ho hbw
          go_wp2_with (at_builtin; refine wpList_append_own _ rfl _ _ 31 rfl w.heap.size 9 i0 (.string ⟨#[]⟩) 1 16 Tryz.underlying31 hi0 hz0 hz1 hz2 rfl (by decide) _ _ _ rfl HO.out ⟨b2, o2, none⟩ n2 c2 (L2.map Value.string) rfl HX2.out HK.out (str_one L2) ?c2 ?c3 ?c4 ?_)
          case c2 => unfold maxLen; omega
          case c3 => omega
          case c4 => exact HBW.out.size
          intro v' w2 hown2 hgrow _
          have H2 := Lib.hid hown2
          have H3 := Lib.hid hgrow
          clear hown2 hgrow
          go_wp2_with fail
          go_roundg 0
          case measure => omega
          case rel => exact .inr (.inr ⟨rfl, rfl, by have h := H2.out; rwa [← List.map_append] at h, HBW.out.grown H3.out HBW.out.size (fun g e => (HO.out.lt g e).1)⟩)
        · have HO := Lib.hid ho
          have HBW := Lib.hid hbw
          clear ho hbw
          go_wp2_with fail
          go_ret
          exact ⟨_, rfl, HO.out, HBW.out⟩

/-- The same, of a row that has just been laid. -/
theorem cat_ready {W : World} {v1 v2 : Value} {L1 L2 : List ByteArray} (hs1 : StrsAt W v1 L1) (hs2 : StrsAt W v2 L2) (hn1 : L1 ≠ []) (hn2 : L2 ≠ []) (hl1 : L1.length ≤ 1000000001) (hl2 : L2.length ≤ 1000000001) (ty : TypeId) (W2 : World) (hb : Below W.heap.size W W2) (g0 : W2.heap[W.heap.size]? = some (.cells #[v1, v2] ty (0, 0))) :
    Calls Tryz.prog 63 #[.slice (some ⟨W.heap.size, 0, none⟩) 2 2] W2 fun e w' => ∃ v, e = .returned v ∧ w'.ownsRow W.heap.size 9 1 v (L1 ++ L2).length ((L1 ++ L2).map Value.string) ∧ Below W.heap.size W w' := by
  refine (concat2_any (by unfold World.cell?; simp only; rw [g0]; rfl) (by unfold World.cell?; simp only; rw [g0]; rfl) (Nat.le_refl 2) (hs1.below hb) (hs2.below hb) hn1 hn2 hl1 hl2).mono ?_
  rintro e w' ⟨v, rfl, hown, hb'⟩
  refine ⟨v, rfl, ⟨hown.1, hown.2.imp id ?_⟩, hb.trans (hb'.mono hb.size)⟩
  rintro ⟨g, cap, cur, e1, e2, e3⟩
  exact ⟨g, cap, cur, e1, Nat.le_trans hb.size e2, e3⟩

end Go.Proofs.YtgnffkahlniehaaGreat
