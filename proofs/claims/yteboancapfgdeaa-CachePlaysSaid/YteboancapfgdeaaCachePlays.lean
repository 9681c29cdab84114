/- Proved: crierlaw8.CachePlays returns true for every input. -/
import Derived.Test.YteboancapfgdeaaRows
import Derived.Test.YteboancapfgdeaaLawPost
import Derived.Test.YteboancapfgdeaaCcScript
import Derived.Test.YteboancapfgdeaaCcSIPair
import Derived.WalkKit
import Derived.ProofKit
import Derived.OpenShut
import Derived.BigRegion
import Derived.Shelf.RegionOpen
import Derived.Deep.DeepCutAuto
namespace Go.Proofs.Yteboancapfgdeaa.cachePlays
open Go.Proofs.Cc Go.Proofs.Yteboancapfgdeaa Go.ChangeShapes Go.WideShapes Go.ChangeAt Go.RowKit
set_option linter.unusedVariables false

theorem own : ownKnob Try.prog.godebug = none := by kernel_rfl

theorem Below.block_cell {B : Nat} {w w' : World} (hb : Below B w w') {b x : Nat} (h : b < B) : w'.cell? ⟨b, x, none⟩ = w.cell? ⟨b, x, none⟩ := hb.cell h

/-- What stands between two rounds. -/
def PlaysAt (w : World) (b ca ma ka va cb mb kb vb mostA mostB j : Nat) (u : World) : Prop :=
  ∃ o, SI.PairW o 0 u ca ma ka va mostA j ∧ SI.PairW o 4 u cb mb kb vb mostB j ∧ (∀ x, x < w.heap.size ∨ x = b ∨ x = b + 1 → o x = 0) ∧ SI.BoxAt u b ca ma ka va ∧ SI.BoxAt u (b + 1) cb mb kb vb ∧ Below w.heap.size w u ∧ b + 2 ≤ u.heap.size

section
variable {w u : World} {b ca ma ka va cb mb kb vb mostA mostB j : Nat}

theorem PlaysAt.boxA (h : PlaysAt w b ca ma ka va cb mb kb vb mostA mostB j u) : SI.BoxAt u b ca ma ka va := by
  obtain ⟨o, h1, h2, h3, h4, h5, h6, h7⟩ := h
  exact h4

theorem PlaysAt.boxB (h : PlaysAt w b ca ma ka va cb mb kb vb mostA mostB j u) : SI.BoxAt u (b + 1) cb mb kb vb := by
  obtain ⟨o, h1, h2, h3, h4, h5, h6, h7⟩ := h
  exact h5

theorem PlaysAt.toBelow (h : PlaysAt w b ca ma ka va cb mb kb vb mostA mostB j u) : Below w.heap.size w u := by
  obtain ⟨o, h1, h2, h3, h4, h5, h6, h7⟩ := h
  exact h6

theorem PlaysAt.size (h : PlaysAt w b ca ma ka va cb mb kb vb mostA mostB j u) : b + 2 ≤ u.heap.size := by
  obtain ⟨o, h1, h2, h3, h4, h5, h6, h7⟩ := h
  exact h7

theorem PlaysAt.below {u' : World} (h : PlaysAt w b ca ma ka va cb mb kb vb mostA mostB j u) (hb : Below u.heap.size u u') : PlaysAt w b ca ma ka va cb mb kb vb mostA mostB j u' := by
  obtain ⟨o, h1, h2, h3, h4, h5, h6, h7⟩ := h
  have hs := hb.size
  refine ⟨o, h1.below hb, h2.below hb, h3, h4.turn (Turn.of_below (S := fun _ => False) hb) id, h5.turn (Turn.of_below (S := fun _ => False) hb) id, h6.trans (hb.mono h6.size), by omega⟩

theorem plays_allA (h : PlaysAt w b ca ma ka va cb mb kb vb mostA mostB j u) (hm : mostA ≤ 1048576) (N : Int) :
    Calls Try.prog 11 #[.agg #[.pointer (some ⟨ca, 0, none⟩), .pointer (some ⟨ma, 0, none⟩), .pointer (some ⟨ka, 0, none⟩), .pointer (some ⟨va, 0, none⟩)], .int .i64 N] u
      fun ex w' => ex = .returned (.bool true) ∧ Below u.heap.size u w' := by
  obtain ⟨o, h1, h2, h3, h4, h5, h6, h7⟩ := h
  exact SI.PairW.allSI_ h1 hm N

theorem plays_allB (h : PlaysAt w b ca ma ka va cb mb kb vb mostA mostB j u) (hm : mostB ≤ 1048576) (N : Int) :
    Calls Try.prog 11 #[.agg #[.pointer (some ⟨cb, 0, none⟩), .pointer (some ⟨mb, 0, none⟩), .pointer (some ⟨kb, 0, none⟩), .pointer (some ⟨vb, 0, none⟩)], .int .i64 N] u
      fun ex w' => ex = .returned (.bool true) ∧ Below u.heap.size u w' := by
  obtain ⟨o, h1, h2, h3, h4, h5, h6, h7⟩ := h
  exact SI.PairW.allSI_ h2 hm N

theorem plays_doesA (h : PlaysAt w b ca ma ka va cb mb kb vb mostA mostB j u) (hw : w.heap.size ≤ b) (hm : mostA ≤ 1048576) (hj : j ≤ 20000) (kind : Int) (k : Str) (v : I64) (stop : Int) :
    Calls Try.prog 10 #[.agg #[.pointer (some ⟨ca, 0, none⟩), .pointer (some ⟨ma, 0, none⟩), .pointer (some ⟨ka, 0, none⟩), .pointer (some ⟨va, 0, none⟩)], .int .i64 kind, .string k.1, .int .i64 v.1, .int .i64 stop] u
      fun ex w' => ex = .returned (.bool true) ∧ PlaysAt w b ca ma ka va cb mb kb vb mostA mostB (j + 1) w' := by
  obtain ⟨o, h1, h2, h3, h4, h5, h6, h7⟩ := h
  refine (SI.PairW.doesSI_ h1 hm hj kind k v stop).mono ?_
  rintro ex w' ⟨rfl, o', hp, hA⟩
  have z0 := h3 b (.inr (.inl rfl))
  have z1 := h3 (b + 1) (.inr (.inr rfl))
  have hs := hA.turn.size
  refine ⟨rfl, o', hp, (h2.other hA (.inr (by omega))).more (by omega), fun x hx => ?_, h4.turn hA.turn (by omega), h5.turn hA.turn (by omega), h6.trans (hA.below h6.size (fun x hx => h3 x (.inl hx))), by omega⟩
  rw [hA.same x (by rcases hx with hx | rfl | rfl <;> omega)]
  exact h3 x hx

theorem plays_doesB (h : PlaysAt w b ca ma ka va cb mb kb vb mostA mostB j u) (hw : w.heap.size ≤ b) (hm : mostB ≤ 1048576) (hj : j ≤ 20000) (kind : Int) (k : Str) (v : I64) (stop : Int) :
    Calls Try.prog 10 #[.agg #[.pointer (some ⟨cb, 0, none⟩), .pointer (some ⟨mb, 0, none⟩), .pointer (some ⟨kb, 0, none⟩), .pointer (some ⟨vb, 0, none⟩)], .int .i64 kind, .string k.1, .int .i64 v.1, .int .i64 stop] u
      fun ex w' => ex = .returned (.bool true) ∧ PlaysAt w b ca ma ka va cb mb kb vb mostA mostB (j + 1) w' := by
  obtain ⟨o, h1, h2, h3, h4, h5, h6, h7⟩ := h
  refine (SI.PairW.doesSI_ h2 hm hj kind k v stop).mono ?_
  rintro ex w' ⟨rfl, o', hp, hA⟩
  have z0 := h3 b (.inr (.inl rfl))
  have z1 := h3 (b + 1) (.inr (.inr rfl))
  have hs := hA.turn.size
  refine ⟨rfl, o', (h1.other hA (.inl (by omega))).more (by omega), hp, fun x hx => ?_, h4.turn hA.turn (by omega), h5.turn hA.turn (by omega), h6.trans (hA.below h6.size (fun x hx => h3 x (.inl hx))), by omega⟩
  rw [hA.same x (by rcases hx with hx | rfl | rfl <;> omega)]
  exact h3 x hx

theorem plays_start {w u1 u2 w3 : World} {t1 t2 : TypeId} (hb1 : Below w.heap.size w u1) (hb2 : Below u1.heap.size u1 u2)
    (hA : ∀ (o : Nat → Nat) (i : Nat), ∃ o', SI.PairW o' i u1 ca ma ka va mostA 0 ∧ ∀ x, x < w.heap.size → o' x = o x)
    (hB : ∀ (o : Nat → Nat) (i : Nat), ∃ o', SI.PairW o' i u2 cb mb kb vb mostB 0 ∧ ∀ x, x < u1.heap.size → o' x = o x)
    (h3 : (u2.alloc (.cells #[.pointer (some ⟨ca, 0, none⟩), .pointer (some ⟨ma, 0, none⟩), .pointer (some ⟨ka, 0, none⟩), .pointer (some ⟨va, 0, none⟩)] t1)).alloc (.cells #[.pointer (some ⟨cb, 0, none⟩), .pointer (some ⟨mb, 0, none⟩), .pointer (some ⟨kb, 0, none⟩), .pointer (some ⟨vb, 0, none⟩)] t2) = w3) :
    PlaysAt w u2.heap.size ca ma ka va cb mb kb vb mostA mostB 0 w3 := by
  obtain ⟨o1, hp1, hz1⟩ := hA (fun _ => 0) 0
  obtain ⟨o2, hp2, hz2⟩ := hB o1 4
  obtain ⟨g1, g2, g3⟩ := SI.box_new u2 ca ma ka va (t := t1) rfl
  obtain ⟨k1, k2, k3⟩ := SI.box_new (u2.alloc (.cells #[.pointer (some ⟨ca, 0, none⟩), .pointer (some ⟨ma, 0, none⟩), .pointer (some ⟨ka, 0, none⟩), .pointer (some ⟨va, 0, none⟩)] t1)) cb mb kb vb h3
  rw [g2] at k2 k3
  have hb3 : Below u2.heap.size u2 w3 := g1.trans (k1.mono (by omega))
  have s1 := hb1.size
  have s2 := hb2.size
  have q1 : SI.PairW o2 0 u2 ca ma ka va mostA 0 := hp1.other (k := 4) ⟨hz2, Turn.of_below hb2⟩ (.inl (by omega))
  refine ⟨Cc.recolor o2 u2 0, (q1.recolor 0).below hb3, (hp2.recolor 0).below hb3, fun x hx => ?_, g3.turn (Turn.of_below (S := fun _ => False) k1) id, k3, (hb1.trans (hb2.mono s1)).trans (hb3.mono (by omega)), by omega⟩
  by_cases hl : x < u2.heap.size
  · have hx : x < w.heap.size := by omega
    rw [recolor_old _ _ _ _ hl, hz2 x (by omega), hz1 x hx]
  · exact recolor_new _ _ _ _ (by omega)
end


set_option maxHeartbeats 8000000 in
set_option maxRecDepth 1000000 in
theorem walk (a0 : Int) (a1 : Int) (w0 : (Lit.int .i64 a0).wf = true) (w1 : (Lit.int .i64 a1).wf = true) (sa : Option Addr) (L : List OpV) (cap : Nat) (hlen : L.length ≤ maxLen) (w : World) (hS : ScriptAt w sa L) :
    Calls Try.prog 3 #[.int .i64 a0, .int .i64 a1, .slice sa L.length cap] w fun e w' => e = .returned (.bool true) ∧ Below w.heap.size w w' := by
  by_cases h0 : 600 < L.length
  · have d0 : decide (600 < (L.length : Int)) = true := decide_eq_true (by omega)
    go_enter Try.func3, Try.ntmps3
    go_wp2_with fail
    go_ret
    exact ⟨rfl, Below.refl _ _⟩
  have d0 : decide (600 < (L.length : Int)) = false := decide_eq_false (by omega)
  have H0 := Lib.hid h0
  clear h0
  have HS := Lib.hid hS
  clear hS
  go_enter Try.func3, Try.ntmps3
  go_wp2_with fail
  refine (SI.pairSI_new a0).mono ?_
  rintro ex u1 ⟨ca, ma, ka, va, rfl, hnew, hb1⟩
  have HNEW := Lib.hid hnew
  have HB1 := Lib.hid hb1
  clear hnew hb1
  go_wp2_with fail
  refine (SI.pairSI_new a1).mono ?_
  rintro ex u2 ⟨cb, mb, kb, vb, rfl, hnew, hb2⟩
  have HNEW2 := Lib.hid hnew
  have HB2 := Lib.hid hb2
  clear hnew hb2
  go_wp2_with fail
  generalize hu3 : (u2.alloc (.cells #[.pointer (some ⟨ca, 0, none⟩), .pointer (some ⟨ma, 0, none⟩), .pointer (some ⟨ka, 0, none⟩), .pointer (some ⟨va, 0, none⟩)] 28)).alloc (.cells #[.pointer (some ⟨cb, 0, none⟩), .pointer (some ⟨mb, 0, none⟩), .pointer (some ⟨kb, 0, none⟩), .pointer (some ⟨vb, 0, none⟩)] 28) = u3
  have HST := Lib.hid (plays_start HB1.out HB2.out HNEW.out HNEW2.out hu3)
  have HWB := Lib.hid (show w.heap.size ≤ u2.heap.size from Nat.le_trans HB1.out.size HB2.out.size)
  clear hu3
  go_loopg [9, 10, 11] L.length (fun g i po pp wr => ∃ j : Nat, j + g = L.length ∧ i = .int .i64 (j : Nat) ∧ PlaysAt w u2.heap.size ca ma ka va cb mb kb vb (clampN a0) (clampN a1) j wr)
  case atStart => exact ⟨0, by omega, rfl, HST.out⟩
  case round =>
    obtain ⟨j, hjg, rfl, hL⟩ := hrel
    have HL := Lib.hid hL
    clear hL
    have ha0 := HL.out.boxA.p0
    have ha1 := HL.out.boxA.p1
    have ha2 := HL.out.boxA.p2
    have ha3 := HL.out.boxA.p3
    have hb0 := HL.out.boxB.p0
    have hb1 := HL.out.boxB.p1
    have hb2 := HL.out.boxB.p2
    have hb3 := HL.out.boxB.p3
    cases gk with
    | zero =>
      have hd : decide ((j : Int) < (L.length : Int)) = false := decide_eq_false (by omega)
      go_wp2_with fail
      refine (plays_allA HL.out (SI.clampN_le a0) (-1)).mono ?_
      rintro ex u4 ⟨rfl, hb4⟩
      have HB4 := Lib.hid hb4
      clear hb4
      have HL4 := Lib.hid (HL.out.below HB4.out)
      have ha0 := HL4.out.boxB.p0
      have ha1 := HL4.out.boxB.p1
      have ha2 := HL4.out.boxB.p2
      have ha3 := HL4.out.boxB.p3
      go_wp2_with fail
      refine (plays_allB HL4.out (SI.clampN_le a1) (-1)).mono ?_
      rintro ex u5 ⟨rfl, hb5⟩
      have HB5 := Lib.hid hb5
      clear hb5
      go_wp2_with fail
      go_ret
      exact ⟨rfl, HL4.out.toBelow.trans (HB5.out.mono HL4.out.toBelow.size)⟩
    | succ gk =>
      have hj : j < L.length := by omega
      have hd : decide ((j : Int) < (L.length : Int)) = true := decide_eq_true (by omega)
      have j6 : (j : Int) + 1 ≤ 9223372036854775807 := by have := H0.out; omega
      obtain ⟨b, off, rfl, hbl, hop⟩ := HS.out.op HL.out.toBelow hj
      obtain ⟨c0, c1, c2, c3, c4, c5⟩ := hop
      generalize L[j] = op at c0 c1 c2 c3 c4 c5
      go_upto_region 10 with fail
      generalize hW1 : wr.alloc (.cells #[.int .i64 op.kind.1, .bool op.second, .string op.name.1, .int .i64 op.n.1, .int .i64 op.v.1, .int .i64 op.stop.1] 33) = W1
      obtain ⟨e1, e2, e3⟩ := op_new wr op hW1
      have HE1 := Lib.hid e1
      have HE2 := Lib.hid e2
      have HL1 := Lib.hid (HL.out.below HE1.out)
      clear c0 c1 c2 c3 c4 c5 ha0 ha1 ha2 ha3 hb0 hb1 hb2 hb3 hW1 e1 e2
      have ha0 := HL1.out.boxA.p0
      have ha1 := HL1.out.boxA.p1
      have ha2 := HL1.out.boxA.p2
      have ha3 := HL1.out.boxA.p3
      go_upto_region 11 with fail
      generalize hW2 : W1.alloc (.cells #[.pointer (some ⟨ca, 0, none⟩), .pointer (some ⟨ma, 0, none⟩), .pointer (some ⟨ka, 0, none⟩), .pointer (some ⟨va, 0, none⟩)] 28) = W2
      have hrow2 : W2.heap[W1.heap.size]? = some (.cells #[.pointer (some ⟨ca, 0, none⟩), .pointer (some ⟨ma, 0, none⟩), .pointer (some ⟨ka, 0, none⟩), .pointer (some ⟨va, 0, none⟩)] 28 (0, 0)) := by
        rw [← hW2]
        exact (MapKept.heap_alloc W1 _).1
      obtain ⟨k1, k2, k3⟩ := SI.box_new W1 ca ma ka va hW2
      have HK1 := Lib.hid k1
      have hop2 := e3.below HK1.out (by have := HE2.out; omega)
      have HL2 := Lib.hid (HL1.out.below HK1.out)
      clear ha0 ha1 ha2 ha3 hW2 k1 k2 e3
      have d1 : W2.cell? ⟨wr.heap.size, 1, none⟩ = some (.bool op.second) := hop2.c1
      have HOP2 := Lib.hid hop2
      clear hop2
      cases hsec : op.second with
      | false =>
        rw [hsec] at d1
        have d0 : W2.cell? ⟨wr.heap.size, 0, none⟩ = some (.int .i64 op.kind.1) := HOP2.out.c0
        have d2 : W2.cell? ⟨wr.heap.size, 2, none⟩ = some (.string op.name.1) := HOP2.out.c2
        have d4 : W2.cell? ⟨wr.heap.size, 4, none⟩ = some (.int .i64 op.v.1) := HOP2.out.c4
        have d5 : W2.cell? ⟨wr.heap.size, 5, none⟩ = some (.int .i64 op.stop.1) := HOP2.out.c5
        obtain ⟨k30, k31, k32, k33⟩ := k3
        clear hrow2
        go_wp2_with fail
        refine (plays_doesA HL2.out HWB.out (SI.clampN_le a0) (by have := H0.out; omega) op.kind.1 op.name op.v op.stop.1).mono ?_
        rintro ex u6 ⟨rfl, hL6⟩
        have HL6 := Lib.hid hL6
        clear hL6
        go_wp2_with fail
        go_roundg gk
        case measure => omega
        case rel => exact ⟨j + 1, by omega, by go_num, HL6.out⟩
      | true =>
        rw [hsec] at d1
        have hb0 := HL2.out.boxB.p0
        have hb1 := HL2.out.boxB.p1
        have hb2 := HL2.out.boxB.p2
        have hb3 := HL2.out.boxB.p3
        have f0 : ∀ o, W2.frozen? ⟨W1.heap.size, o, none⟩ = false := fun o => Live.frozen ⟨_, _, hrow2⟩ o none
        have f00 := f0 0
        have f01 := f0 1
        have f02 := f0 2
        have f03 := f0 3
        clear f0
        obtain ⟨k30, k31, k32, k33⟩ := k3
        go_upto_region 13 with fail
        have s0 := heap_setCell_same W2 W1.heap.size 0 _ _ (.pointer (some ⟨cb, 0, none⟩)) hrow2
        have s1 := heap_setCell_same _ W1.heap.size 1 _ _ (.pointer (some ⟨mb, 0, none⟩)) s0
        have s2 := heap_setCell_same _ W1.heap.size 2 _ _ (.pointer (some ⟨kb, 0, none⟩)) s1
        have s3 := heap_setCell_same _ W1.heap.size 3 _ _ (.pointer (some ⟨vb, 0, none⟩)) s2
        have hB3 : Below W1.heap.size W2 ((((W2.setCell ⟨W1.heap.size, 0, none⟩ (.pointer (some ⟨cb, 0, none⟩))).setCell ⟨W1.heap.size, 1, none⟩ (.pointer (some ⟨mb, 0, none⟩))).setCell ⟨W1.heap.size, 2, none⟩ (.pointer (some ⟨kb, 0, none⟩))).setCell ⟨W1.heap.size, 3, none⟩ (.pointer (some ⟨vb, 0, none⟩))) :=
          ((((Below.refl W1.heap.size W2).setCell (p := ⟨W1.heap.size, 0, none⟩) (Nat.le_refl _) _).setCell (p := ⟨W1.heap.size, 1, none⟩) (Nat.le_refl _) _).setCell (p := ⟨W1.heap.size, 2, none⟩) (Nat.le_refl _) _).setCell (p := ⟨W1.heap.size, 3, none⟩) (Nat.le_refl _) _
        clear s0 s1 s2
        generalize (((W2.setCell ⟨W1.heap.size, 0, none⟩ (.pointer (some ⟨cb, 0, none⟩))).setCell ⟨W1.heap.size, 1, none⟩ (.pointer (some ⟨mb, 0, none⟩))).setCell ⟨W1.heap.size, 2, none⟩ (.pointer (some ⟨kb, 0, none⟩))).setCell ⟨W1.heap.size, 3, none⟩ (.pointer (some ⟨vb, 0, none⟩)) = W3 at s3 hB3 ⊢
        have hop3 := HOP2.out.below hB3 (by have := HE2.out; omega)
        have HL3 := Lib.hid (HL1.out.below (HK1.out.trans hB3))
        have g0 : W3.cell? ⟨W1.heap.size, 0, none⟩ = some (.pointer (some ⟨cb, 0, none⟩)) := by unfold World.cell?; simp only; rw [s3]; rfl
        have g1 : W3.cell? ⟨W1.heap.size, 1, none⟩ = some (.pointer (some ⟨mb, 0, none⟩)) := by unfold World.cell?; simp only; rw [s3]; rfl
        have g2 : W3.cell? ⟨W1.heap.size, 2, none⟩ = some (.pointer (some ⟨kb, 0, none⟩)) := by unfold World.cell?; simp only; rw [s3]; rfl
        have g3 : W3.cell? ⟨W1.heap.size, 3, none⟩ = some (.pointer (some ⟨vb, 0, none⟩)) := by unfold World.cell?; simp only; rw [s3]; rfl
        have d0 : W3.cell? ⟨wr.heap.size, 0, none⟩ = some (.int .i64 op.kind.1) := hop3.c0
        have d2 : W3.cell? ⟨wr.heap.size, 2, none⟩ = some (.string op.name.1) := hop3.c2
        have d4 : W3.cell? ⟨wr.heap.size, 4, none⟩ = some (.int .i64 op.v.1) := hop3.c4
        have d5 : W3.cell? ⟨wr.heap.size, 5, none⟩ = some (.int .i64 op.stop.1) := hop3.c5
        clear hrow2 s3 hB3 hop3 d1 hb0 hb1 hb2 hb3 f00 f01 f02 f03 k30 k31 k32 k33
        go_wp2_with fail
        refine (plays_doesB HL3.out HWB.out (SI.clampN_le a1) (by have := H0.out; omega) op.kind.1 op.name op.v op.stop.1).mono ?_
        rintro ex u6 ⟨rfl, hL6⟩
        have HL6 := Lib.hid hL6
        clear hL6
        go_wp2_with fail
        go_roundg gk
        case measure => omega
        case rel => exact ⟨j + 1, by omega, by go_num, HL6.out⟩

set_option maxRecDepth 100000 in
theorem lifted (os : Os) (started : os.Started) (H : Type) (enc : TypeId × Value → H) :
    ReturnsInHanded {} Try.checked os 3 .any (Rows.cachePlaysSpec.pre6 enc Try.prog Try.f3 Rows.cachePlaysRow.domain false) (Rows.cachePlaysSpec.post enc Try.prog Try.f3 false true false false) := by
  refine returnsInHanded_of_change (C := Try.checked) own started (by kernel_rfl) Try.func3
    (ChangeSpec.witness6 (enc := enc) (C := Try.checked) false ⟨#[], #[.int .i64 0, .int .i64 0, .slice none 0 0], []⟩ 8 (by kernel_rfl) (by kernel_rfl) (by kernel_rfl) (by kernel_rfl)) ?_
  intro W base args ds gs before hval0 hW hcnd _
  have hval : ∀ (j : Nat) t v, Try.f3.params[j]? = some t → args[j]? = some v → Value.okWide Try.prog W .any base t v := hval0
  have hW' := hW
  obtain ⟨p, q, hA0, hV, rfl, hfz, hnd⟩ := hW
  have hA : DataW.TrodAll enc Try.prog W 0 (fun _ => true) true Try.f3.params.toList args.toList ds p := hA0
  rw [Try.params3] at hA hval
  obtain ⟨v0, vs0, d0, ds0, p0, q0, hargs, rfl, rfl, h0, r0⟩ := trodAll_cons hA
  obtain ⟨v1, vs1, d1, ds1, p1, q1, rfl, rfl, rfl, h1, r1⟩ := trodAll_cons r0
  obtain ⟨v2, vs2, d2, ds2, p2, q2, rfl, rfl, rfl, h2, r2⟩ := trodAll_cons r1
  obtain ⟨rfl, rfl, rfl⟩ := trodAll_nil r2
  obtain rfl : args = #[v0, v1, v2] := by cases args; simp_all
  obtain ⟨rfl, rfl⟩ := trodVars_none hV
  obtain ⟨a0, rfl, rfl, rfl, w0⟩ := open_int Try.underlying3 (hval 0 3 v0 rfl rfl) h0
  obtain ⟨a1, rfl, rfl, rfl, w1⟩ := open_int Try.underlying3 (hval 1 3 v1 rfl rfl) h1
  obtain ⟨sa, L, cap, rfl, hlen, hS⟩ := open_script (okWide_slice Try.underlying22 (hval 2 22 v2 rfl rfl)) h2
  clear hA0 hval0
  simp only [List.append_nil, List.nil_append] at hW'
  refine (walk a0 a1 w0 w1 sa L cap hlen W hS).mono fun e W' ⟨he, hg⟩ => ?_
  subst he
  have hshut := (trodAll_cons_mk (shut_int Try.underlying3 w0) (trodAll_cons_mk (shut_int Try.underlying3 w1) (trodAll_cons_mk (again script_readable script_row h2 hg) trodAll_mk0)))
  simp only [List.append_nil, List.nil_append] at hshut
  exact ⟨_, rfl, law_post hW' hg (fun _ => (trodAll_cons_mk (shut_bool Try.underlying4 _) trodAll_mk0)) hshut rfl⟩

theorem over : Rows.cachePlaysRow.holds Try.pinned (OpenSpec.ofChange Rows.cachePlaysSpec) :=
  OpenClaim.holds_of_wide 3 Try.f3 rfl rfl rfl rfl rfl rfl rfl ⟨rfl, rfl, rfl, rfl, rfl⟩ rfl rfl rfl rfl rfl (by kernel_rfl) Try.func3 (by kernel_rfl)
    (of_decide_eq_true (by kernel_rfl)) (by unfold Func.isWrapper; first | (rw [if_pos (by decide +kernel)]; kernel_rfl) | (rw [if_neg (by decide +kernel)]; exact ⟨rfl, rfl⟩))
    (fun os started H enc _ => lifted os started H enc)

theorem proved : Rows.CachePlaysSaid :=
  over
#print axioms proved
end Go.Proofs.Yteboancapfgdeaa.cachePlays
