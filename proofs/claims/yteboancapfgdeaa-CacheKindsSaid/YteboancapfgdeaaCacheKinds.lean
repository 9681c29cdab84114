/- Proved: crierlaw8.CacheKinds returns true for every input. -/
import Derived.Test.YteboancapfgdeaaRows
import Derived.Test.YteboancapfgdeaaLawPost
import Derived.Test.YteboancapfgdeaaCcScript
import Derived.Test.YteboancapfgdeaaMrKS
import Derived.Test.YteboancapfgdeaaMrIK
import Derived.Test.YteboancapfgdeaaMrAB
import Derived.Test.YteboancapfgdeaaMrBU
import Derived.WalkKit
import Derived.ProofKit
import Derived.OpenShut
import Derived.BigRegion
import Derived.Shelf.RegionOpen
import Derived.Deep.DeepCutAuto
namespace Go.Proofs.Yteboancapfgdeaa.cacheKinds
open Go.Proofs.Cc Go.Proofs.Yteboancapfgdeaa Go.ChangeShapes Go.WideShapes Go.ChangeAt Go.RowKit
set_option linter.unusedVariables false

theorem own : ownKnob Try.prog.godebug = none := by kernel_rfl

theorem u8_wf (n : Int) : (Lit.int .u8 (IntKind.u8.wrap n)).wf = true := wf_wrap .u8 n

/-- What stands between two calls: four pairs, their boxes from b on, a box q. -/
def KindsAt (w : World) (b q ca ma ka va cb mb kb vb cc mc kc vc cd md kd vd most j1 j2 j3 j4 : Nat) (u : World) : Prop :=
  ∃ o, KS.PairW o 0 u ca ma ka va most j1 ∧ IK.PairW o 4 u cb mb kb vb most j2 ∧ AB.PairW o 8 u cc mc kc vc most j3 ∧ BU.PairW o 12 u cd md kd vd most j4 ∧ (∀ x, x < w.heap.size ∨ (b ≤ x ∧ x < b + 4) ∨ x = q → o x = 0) ∧ KS.BoxAt u (b + 0) ca ma ka va ∧ KS.BoxAt u (b + 1) cb mb kb vb ∧ KS.BoxAt u (b + 2) cc mc kc vc ∧ KS.BoxAt u (b + 3) cd md kd vd ∧ Below w.heap.size w u ∧ (b + 4 ≤ u.heap.size ∧ q < u.heap.size)

section
variable {w u : World} {b q ca ma ka va cb mb kb vb cc mc kc vc cd md kd vd most j1 j2 j3 j4 : Nat}

theorem KindsAt.box1 (h : KindsAt w b q ca ma ka va cb mb kb vb cc mc kc vc cd md kd vd most j1 j2 j3 j4 u) : KS.BoxAt u (b + 0) ca ma ka va := by
  obtain ⟨o, h1, h2, h3, h4, hz, b1, b2, b3, b4, hb, hs⟩ := h
  exact b1

theorem KindsAt.box2 (h : KindsAt w b q ca ma ka va cb mb kb vb cc mc kc vc cd md kd vd most j1 j2 j3 j4 u) : KS.BoxAt u (b + 1) cb mb kb vb := by
  obtain ⟨o, h1, h2, h3, h4, hz, b1, b2, b3, b4, hb, hs⟩ := h
  exact b2

theorem KindsAt.box3 (h : KindsAt w b q ca ma ka va cb mb kb vb cc mc kc vc cd md kd vd most j1 j2 j3 j4 u) : KS.BoxAt u (b + 2) cc mc kc vc := by
  obtain ⟨o, h1, h2, h3, h4, hz, b1, b2, b3, b4, hb, hs⟩ := h
  exact b3

theorem KindsAt.box4 (h : KindsAt w b q ca ma ka va cb mb kb vb cc mc kc vc cd md kd vd most j1 j2 j3 j4 u) : KS.BoxAt u (b + 3) cd md kd vd := by
  obtain ⟨o, h1, h2, h3, h4, hz, b1, b2, b3, b4, hb, hs⟩ := h
  exact b4

theorem KindsAt.toBelow (h : KindsAt w b q ca ma ka va cb mb kb vb cc mc kc vc cd md kd vd most j1 j2 j3 j4 u) : Below w.heap.size w u := by
  obtain ⟨o, h1, h2, h3, h4, hz, b1, b2, b3, b4, hb, hs⟩ := h
  exact hb

theorem KindsAt.size (h : KindsAt w b q ca ma ka va cb mb kb vb cc mc kc vc cd md kd vd most j1 j2 j3 j4 u) : b + 4 ≤ u.heap.size := by
  obtain ⟨o, h1, h2, h3, h4, hz, b1, b2, b3, b4, hb, hs⟩ := h
  exact hs.1

theorem KindsAt.below {u' : World} (h : KindsAt w b q ca ma ka va cb mb kb vb cc mc kc vc cd md kd vd most j1 j2 j3 j4 u) (hu : Below u.heap.size u u') : KindsAt w b q ca ma ka va cb mb kb vb cc mc kc vc cd md kd vd most j1 j2 j3 j4 u' := by
  obtain ⟨o, h1, h2, h3, h4, hz, b1, b2, b3, b4, hb, hs⟩ := h
  have hz' := hu.size
  exact ⟨o, h1.below hu, h2.below hu, h3.below hu, h4.below hu, hz, b1.turn (Turn.of_below (S := fun _ => False) hu) id, b2.turn (Turn.of_below (S := fun _ => False) hu) id, b3.turn (Turn.of_below (S := fun _ => False) hu) id, b4.turn (Turn.of_below (S := fun _ => False) hu) id, hb.trans (hu.mono hb.size), by omega, by omega⟩

/-- A box more. -/
theorem KindsAt.boxed {u' : World} (h : KindsAt w b q ca ma ka va cb mb kb vb cc mc kc vc cd md kd vd most j1 j2 j3 j4 u) (hu : Below u.heap.size u u') (hs' : u'.heap.size = u.heap.size + 1) : KindsAt w b u.heap.size ca ma ka va cb mb kb vb cc mc kc vc cd md kd vd most j1 j2 j3 j4 u' := by
  obtain ⟨o, h1, h2, h3, h4, hz, b1, b2, b3, b4, hb, hs⟩ := h
  refine ⟨Cc.recolor o u 0, (h1.recolor 0).below hu, (h2.recolor 0).below hu, (h3.recolor 0).below hu, (h4.recolor 0).below hu, fun x hx => ?_, b1.turn (Turn.of_below (S := fun _ => False) hu) id, b2.turn (Turn.of_below (S := fun _ => False) hu) id, b3.turn (Turn.of_below (S := fun _ => False) hu) id, b4.turn (Turn.of_below (S := fun _ => False) hu) id, hb.trans (hu.mono hb.size), by omega, by omega⟩
  have hw := hb.size
  rcases hx with hx | hx | rfl
  · rw [recolor_old _ _ _ _ (by omega)]; exact hz x (.inl hx)
  · rw [recolor_old _ _ _ _ (by omega)]; exact hz x (.inr (.inl hx))
  · exact recolor_new _ _ _ _ (Nat.le_refl _)

theorem kinds_does1 (h : KindsAt w b q ca ma ka va cb mb kb vb cc mc kc vc cd md kd vd most j1 j2 j3 j4 u) (hw : w.heap.size ≤ b) (hm : most ≤ 1048576) (hj : j1 ≤ 20000) (kind : Int) (k : KeyV) (v : Str) (stop : Int) :
    Calls Try.prog 16 #[.agg #[.pointer (some ⟨ca, 0, none⟩), .pointer (some ⟨ma, 0, none⟩), .pointer (some ⟨ka, 0, none⟩), .pointer (some ⟨va, 0, none⟩)], .int .i64 kind, .agg #[.string k.name.1, .int .i64 k.n.1], .string v.1, .int .i64 stop] u
      fun ex w' => ex = .returned (.bool true) ∧ KindsAt w b q ca ma ka va cb mb kb vb cc mc kc vc cd md kd vd most (j1 + 1) j2 j3 j4 w' ∧ ∀ off v, u.cell? ⟨q, off, none⟩ = some v → w'.cell? ⟨q, off, none⟩ = some v := by
  obtain ⟨o, h1, h2, h3, h4, hz, b1, b2, b3, b4, hb, hs⟩ := h
  refine (KS.PairW.doesKS_ h1 hm hj kind k v stop).mono ?_
  rintro ex w' ⟨rfl, o', hp, hA⟩
  have z1 := hz (b + 0) (.inr (.inl (by omega)))
  have z2 := hz (b + 1) (.inr (.inl (by omega)))
  have z3 := hz (b + 2) (.inr (.inl (by omega)))
  have z4 := hz (b + 3) (.inr (.inl (by omega)))
  have zq := hz q (.inr (.inr rfl))
  have hsz := hA.turn.size
  refine ⟨rfl, ⟨o', hp, (h2.other hA (.inr (by omega))), (h3.other hA (.inr (by omega))), (h4.other hA (.inr (by omega))), fun x hx => ?_, b1.turn hA.turn (by omega), b2.turn hA.turn (by omega), b3.turn hA.turn (by omega), b4.turn hA.turn (by omega), hb.trans (hA.below hb.size (fun x hx => hz x (.inl hx))), by omega, by omega⟩, fun off v hv => ?_⟩
  · rw [hA.same x (by have := hb.size; rcases hx with hx | hx | rfl <;> omega)]
    exact hz x hx
  · have hs : Same (fun x => x = q) u w' := hA.turn.same (fun x hx hS => by subst hx; omega)
    exact hs.cell rfl hv

theorem kinds_all1 (h : KindsAt w b q ca ma ka va cb mb kb vb cc mc kc vc cd md kd vd most j1 j2 j3 j4 u) (hm : most ≤ 1048576) (N : Int) :
    Calls Try.prog 20 #[.agg #[.pointer (some ⟨ca, 0, none⟩), .pointer (some ⟨ma, 0, none⟩), .pointer (some ⟨ka, 0, none⟩), .pointer (some ⟨va, 0, none⟩)], .int .i64 N] u fun ex w' => ex = .returned (.bool true) ∧ Below u.heap.size u w' := by
  obtain ⟨o, h1, h2, h3, h4, hz, b1, b2, b3, b4, hb, hs⟩ := h
  exact KS.PairW.allKS_ h1 hm N

theorem kinds_does2 (h : KindsAt w b q ca ma ka va cb mb kb vb cc mc kc vc cd md kd vd most j1 j2 j3 j4 u) (hw : w.heap.size ≤ b) (hm : most ≤ 1048576) (hj : j2 ≤ 20000) (kind : Int) (k : I64) (v : KeyV) (stop : Int) :
    Calls Try.prog 17 #[.agg #[.pointer (some ⟨cb, 0, none⟩), .pointer (some ⟨mb, 0, none⟩), .pointer (some ⟨kb, 0, none⟩), .pointer (some ⟨vb, 0, none⟩)], .int .i64 kind, .int .i64 k.1, .agg #[.string v.name.1, .int .i64 v.n.1], .int .i64 stop] u
      fun ex w' => ex = .returned (.bool true) ∧ KindsAt w b q ca ma ka va cb mb kb vb cc mc kc vc cd md kd vd most j1 (j2 + 1) j3 j4 w' ∧ ∀ off v, u.cell? ⟨q, off, none⟩ = some v → w'.cell? ⟨q, off, none⟩ = some v := by
  obtain ⟨o, h1, h2, h3, h4, hz, b1, b2, b3, b4, hb, hs⟩ := h
  refine (IK.PairW.doesIK_ h2 hm hj kind k v stop).mono ?_
  rintro ex w' ⟨rfl, o', hp, hA⟩
  have z1 := hz (b + 0) (.inr (.inl (by omega)))
  have z2 := hz (b + 1) (.inr (.inl (by omega)))
  have z3 := hz (b + 2) (.inr (.inl (by omega)))
  have z4 := hz (b + 3) (.inr (.inl (by omega)))
  have zq := hz q (.inr (.inr rfl))
  have hsz := hA.turn.size
  refine ⟨rfl, ⟨o', (h1.other hA (.inl (by omega))), hp, (h3.other hA (.inr (by omega))), (h4.other hA (.inr (by omega))), fun x hx => ?_, b1.turn hA.turn (by omega), b2.turn hA.turn (by omega), b3.turn hA.turn (by omega), b4.turn hA.turn (by omega), hb.trans (hA.below hb.size (fun x hx => hz x (.inl hx))), by omega, by omega⟩, fun off v hv => ?_⟩
  · rw [hA.same x (by have := hb.size; rcases hx with hx | hx | rfl <;> omega)]
    exact hz x hx
  · have hs : Same (fun x => x = q) u w' := hA.turn.same (fun x hx hS => by subst hx; omega)
    exact hs.cell rfl hv

theorem kinds_all2 (h : KindsAt w b q ca ma ka va cb mb kb vb cc mc kc vc cd md kd vd most j1 j2 j3 j4 u) (hm : most ≤ 1048576) (N : Int) :
    Calls Try.prog 21 #[.agg #[.pointer (some ⟨cb, 0, none⟩), .pointer (some ⟨mb, 0, none⟩), .pointer (some ⟨kb, 0, none⟩), .pointer (some ⟨vb, 0, none⟩)], .int .i64 N] u fun ex w' => ex = .returned (.bool true) ∧ Below u.heap.size u w' := by
  obtain ⟨o, h1, h2, h3, h4, hz, b1, b2, b3, b4, hb, hs⟩ := h
  exact IK.PairW.allIK_ h2 hm N

theorem kinds_does3 (h : KindsAt w b q ca ma ka va cb mb kb vb cc mc kc vc cd md kd vd most j1 j2 j3 j4 u) (hw : w.heap.size ≤ b) (hm : most ≤ 1048576) (hj : j3 ≤ 20000) (kind : Int) (k : A2) (v : Bool) (stop : Int) :
    Calls Try.prog 18 #[.agg #[.pointer (some ⟨cc, 0, none⟩), .pointer (some ⟨mc, 0, none⟩), .pointer (some ⟨kc, 0, none⟩), .pointer (some ⟨vc, 0, none⟩)], .int .i64 kind, .agg #[.int .u8 k.a.1, .int .u8 k.b.1], .bool v, .int .i64 stop] u
      fun ex w' => ex = .returned (.bool true) ∧ KindsAt w b q ca ma ka va cb mb kb vb cc mc kc vc cd md kd vd most j1 j2 (j3 + 1) j4 w' ∧ ∀ off v, u.cell? ⟨q, off, none⟩ = some v → w'.cell? ⟨q, off, none⟩ = some v := by
  obtain ⟨o, h1, h2, h3, h4, hz, b1, b2, b3, b4, hb, hs⟩ := h
  refine (AB.PairW.doesAB_ h3 hm hj kind k v stop).mono ?_
  rintro ex w' ⟨rfl, o', hp, hA⟩
  have z1 := hz (b + 0) (.inr (.inl (by omega)))
  have z2 := hz (b + 1) (.inr (.inl (by omega)))
  have z3 := hz (b + 2) (.inr (.inl (by omega)))
  have z4 := hz (b + 3) (.inr (.inl (by omega)))
  have zq := hz q (.inr (.inr rfl))
  have hsz := hA.turn.size
  refine ⟨rfl, ⟨o', (h1.other hA (.inl (by omega))), (h2.other hA (.inl (by omega))), hp, (h4.other hA (.inr (by omega))), fun x hx => ?_, b1.turn hA.turn (by omega), b2.turn hA.turn (by omega), b3.turn hA.turn (by omega), b4.turn hA.turn (by omega), hb.trans (hA.below hb.size (fun x hx => hz x (.inl hx))), by omega, by omega⟩, fun off v hv => ?_⟩
  · rw [hA.same x (by have := hb.size; rcases hx with hx | hx | rfl <;> omega)]
    exact hz x hx
  · have hs : Same (fun x => x = q) u w' := hA.turn.same (fun x hx hS => by subst hx; omega)
    exact hs.cell rfl hv

theorem kinds_all3 (h : KindsAt w b q ca ma ka va cb mb kb vb cc mc kc vc cd md kd vd most j1 j2 j3 j4 u) (hm : most ≤ 1048576) (N : Int) :
    Calls Try.prog 22 #[.agg #[.pointer (some ⟨cc, 0, none⟩), .pointer (some ⟨mc, 0, none⟩), .pointer (some ⟨kc, 0, none⟩), .pointer (some ⟨vc, 0, none⟩)], .int .i64 N] u fun ex w' => ex = .returned (.bool true) ∧ Below u.heap.size u w' := by
  obtain ⟨o, h1, h2, h3, h4, hz, b1, b2, b3, b4, hb, hs⟩ := h
  exact AB.PairW.allAB_ h3 hm N

theorem kinds_does4 (h : KindsAt w b q ca ma ka va cb mb kb vb cc mc kc vc cd md kd vd most j1 j2 j3 j4 u) (hw : w.heap.size ≤ b) (hm : most ≤ 1048576) (hj : j4 ≤ 20000) (kind : Int) (k : Bool) (v : U8) (stop : Int) :
    Calls Try.prog 19 #[.agg #[.pointer (some ⟨cd, 0, none⟩), .pointer (some ⟨md, 0, none⟩), .pointer (some ⟨kd, 0, none⟩), .pointer (some ⟨vd, 0, none⟩)], .int .i64 kind, .bool k, .int .u8 v.1, .int .i64 stop] u
      fun ex w' => ex = .returned (.bool true) ∧ KindsAt w b q ca ma ka va cb mb kb vb cc mc kc vc cd md kd vd most j1 j2 j3 (j4 + 1) w' ∧ ∀ off v, u.cell? ⟨q, off, none⟩ = some v → w'.cell? ⟨q, off, none⟩ = some v := by
  obtain ⟨o, h1, h2, h3, h4, hz, b1, b2, b3, b4, hb, hs⟩ := h
  refine (BU.PairW.doesBU_ h4 hm hj kind k v stop).mono ?_
  rintro ex w' ⟨rfl, o', hp, hA⟩
  have z1 := hz (b + 0) (.inr (.inl (by omega)))
  have z2 := hz (b + 1) (.inr (.inl (by omega)))
  have z3 := hz (b + 2) (.inr (.inl (by omega)))
  have z4 := hz (b + 3) (.inr (.inl (by omega)))
  have zq := hz q (.inr (.inr rfl))
  have hsz := hA.turn.size
  refine ⟨rfl, ⟨o', (h1.other hA (.inl (by omega))), (h2.other hA (.inl (by omega))), (h3.other hA (.inl (by omega))), hp, fun x hx => ?_, b1.turn hA.turn (by omega), b2.turn hA.turn (by omega), b3.turn hA.turn (by omega), b4.turn hA.turn (by omega), hb.trans (hA.below hb.size (fun x hx => hz x (.inl hx))), by omega, by omega⟩, fun off v hv => ?_⟩
  · rw [hA.same x (by have := hb.size; rcases hx with hx | hx | rfl <;> omega)]
    exact hz x hx
  · have hs : Same (fun x => x = q) u w' := hA.turn.same (fun x hx hS => by subst hx; omega)
    exact hs.cell rfl hv

theorem kinds_all4 (h : KindsAt w b q ca ma ka va cb mb kb vb cc mc kc vc cd md kd vd most j1 j2 j3 j4 u) (hm : most ≤ 1048576) (N : Int) :
    Calls Try.prog 23 #[.agg #[.pointer (some ⟨cd, 0, none⟩), .pointer (some ⟨md, 0, none⟩), .pointer (some ⟨kd, 0, none⟩), .pointer (some ⟨vd, 0, none⟩)], .int .i64 N] u fun ex w' => ex = .returned (.bool true) ∧ Below u.heap.size u w' := by
  obtain ⟨o, h1, h2, h3, h4, hz, b1, b2, b3, b4, hb, hs⟩ := h
  exact BU.PairW.allBU_ h4 hm N

theorem kinds_start {w u1 u2 u3 u4 u5 : World} {t1 t2 t3 t4 : TypeId} (hb1 : Below w.heap.size w u1) (hb2 : Below u1.heap.size u1 u2) (hb3 : Below u2.heap.size u2 u3) (hb4 : Below u3.heap.size u3 u4)
    (hn1 : ∀ (o : Nat → Nat) (i : Nat), ∃ o', KS.PairW o' i u1 ca ma ka va most 0 ∧ ∀ x, x < w.heap.size → o' x = o x)
    (hn2 : ∀ (o : Nat → Nat) (i : Nat), ∃ o', IK.PairW o' i u2 cb mb kb vb most 0 ∧ ∀ x, x < u1.heap.size → o' x = o x)
    (hn3 : ∀ (o : Nat → Nat) (i : Nat), ∃ o', AB.PairW o' i u3 cc mc kc vc most 0 ∧ ∀ x, x < u2.heap.size → o' x = o x)
    (hn4 : ∀ (o : Nat → Nat) (i : Nat), ∃ o', BU.PairW o' i u4 cd md kd vd most 0 ∧ ∀ x, x < u3.heap.size → o' x = o x)
    (h5 : ((((u4.alloc (.cells #[.pointer (some ⟨ca, 0, none⟩), .pointer (some ⟨ma, 0, none⟩), .pointer (some ⟨ka, 0, none⟩), .pointer (some ⟨va, 0, none⟩)] t1)).alloc (.cells #[.pointer (some ⟨cb, 0, none⟩), .pointer (some ⟨mb, 0, none⟩), .pointer (some ⟨kb, 0, none⟩), .pointer (some ⟨vb, 0, none⟩)] t2)).alloc (.cells #[.pointer (some ⟨cc, 0, none⟩), .pointer (some ⟨mc, 0, none⟩), .pointer (some ⟨kc, 0, none⟩), .pointer (some ⟨vc, 0, none⟩)] t3)).alloc (.cells #[.pointer (some ⟨cd, 0, none⟩), .pointer (some ⟨md, 0, none⟩), .pointer (some ⟨kd, 0, none⟩), .pointer (some ⟨vd, 0, none⟩)] t4)) = u5) :
    KindsAt w u4.heap.size u4.heap.size ca ma ka va cb mb kb vb cc mc kc vc cd md kd vd most 0 0 0 0 u5 := by
  obtain ⟨o1, p1, z1⟩ := hn1 (fun _ => 0) 0
  obtain ⟨o2, p2, z2⟩ := hn2 o1 4
  obtain ⟨o3, p3, z3⟩ := hn3 o2 8
  obtain ⟨o4, p4, z4⟩ := hn4 o3 12
  have s1 := hb1.size
  have s2 := hb2.size
  have s3 := hb3.size
  have s4 := hb4.size
  obtain ⟨B1, hB1⟩ : ∃ B, (u4.alloc (.cells #[.pointer (some ⟨ca, 0, none⟩), .pointer (some ⟨ma, 0, none⟩), .pointer (some ⟨ka, 0, none⟩), .pointer (some ⟨va, 0, none⟩)] t1)) = B := ⟨_, rfl⟩
  obtain ⟨e1, f1, g1⟩ := KS.box_new u4 ca ma ka va hB1
  rw [hB1] at h5
  obtain ⟨B2, hB2⟩ : ∃ B, (B1.alloc (.cells #[.pointer (some ⟨cb, 0, none⟩), .pointer (some ⟨mb, 0, none⟩), .pointer (some ⟨kb, 0, none⟩), .pointer (some ⟨vb, 0, none⟩)] t2)) = B := ⟨_, rfl⟩
  obtain ⟨e2, f2, g2⟩ := KS.box_new B1 cb mb kb vb hB2
  rw [hB2] at h5
  obtain ⟨B3, hB3⟩ : ∃ B, (B2.alloc (.cells #[.pointer (some ⟨cc, 0, none⟩), .pointer (some ⟨mc, 0, none⟩), .pointer (some ⟨kc, 0, none⟩), .pointer (some ⟨vc, 0, none⟩)] t3)) = B := ⟨_, rfl⟩
  obtain ⟨e3, f3, g3⟩ := KS.box_new B2 cc mc kc vc hB3
  rw [hB3] at h5
  obtain ⟨B4, hB4⟩ : ∃ B, (B3.alloc (.cells #[.pointer (some ⟨cd, 0, none⟩), .pointer (some ⟨md, 0, none⟩), .pointer (some ⟨kd, 0, none⟩), .pointer (some ⟨vd, 0, none⟩)] t4)) = B := ⟨_, rfl⟩
  obtain ⟨e4, f4, g4⟩ := KS.box_new B3 cd md kd vd hB4
  rw [hB4] at h5
  subst h5
  rw [f1] at g2
  rw [f2, f1] at g3
  rw [f3, f2, f1] at g4
  have k3 : Below B3.heap.size B3 B4 := e4
  have k2 : Below B2.heap.size B2 B4 := e3.trans (e4.mono e3.size)
  have k1 : Below B1.heap.size B1 B4 := e2.trans (k2.mono e2.size)
  have k0 : Below u4.heap.size u4 B4 := e1.trans (k1.mono e1.size)
  have q1 : KS.PairW o2 0 u2 ca ma ka va most 0 := p1.other (k := 4) ⟨z2, Turn.of_below hb2⟩ (.inl (by omega))
  have q1 : KS.PairW o3 0 u3 ca ma ka va most 0 := q1.other (k := 8) ⟨z3, Turn.of_below hb3⟩ (.inl (by omega))
  have q1 : KS.PairW o4 0 u4 ca ma ka va most 0 := q1.other (k := 12) ⟨z4, Turn.of_below hb4⟩ (.inl (by omega))
  have q2 : IK.PairW o3 4 u3 cb mb kb vb most 0 := p2.other (k := 8) ⟨z3, Turn.of_below hb3⟩ (.inl (by omega))
  have q2 : IK.PairW o4 4 u4 cb mb kb vb most 0 := q2.other (k := 12) ⟨z4, Turn.of_below hb4⟩ (.inl (by omega))
  have q3 : AB.PairW o4 8 u4 cc mc kc vc most 0 := p3.other (k := 12) ⟨z4, Turn.of_below hb4⟩ (.inl (by omega))
  have T : ∀ {A B : World}, Below A.heap.size A B → Turn (fun _ => False) A B := fun h => Turn.of_below h
  refine ⟨Cc.recolor o4 u4 0, (q1.recolor 0).below k0, (q2.recolor 0).below k0, (q3.recolor 0).below k0, (p4.recolor 0).below k0, fun x hx => ?_, g1.turn (T k1) id, g2.turn (T k2) id, g3.turn (T k3) id, g4, (((hb1.trans (hb2.mono s1)).trans (hb3.mono (by omega))).trans (hb4.mono (by omega))).trans (k0.mono (by omega)), by omega, by omega⟩
  by_cases hl : x < u4.heap.size
  · have hx : x < w.heap.size := by omega
    rw [recolor_old _ _ _ _ hl, z4 x (by omega), z3 x (by omega), z2 x (by omega), z1 x hx]
  · exact recolor_new _ _ _ _ (by omega)
end


set_option maxHeartbeats 8000000 in
set_option maxRecDepth 1000000 in
theorem walk (a0 : Int) (w0 : (Lit.int .i64 a0).wf = true) (sa : Option Addr) (L : List OpV) (cap : Nat) (hlen : L.length ≤ maxLen) (w : World) (hS : ScriptAt w sa L) :
    Calls Try.prog 4 #[.int .i64 a0, .slice sa L.length cap] w fun e w' => e = .returned (.bool true) ∧ Below w.heap.size w w' := by
  by_cases h0 : 200 < L.length
  · have d0 : decide (200 < (L.length : Int)) = true := decide_eq_true (by omega)
    go_enter Try.func4, Try.ntmps4
    go_wp2_with fail
    go_ret
    exact ⟨rfl, Below.refl _ _⟩
  have d0 : decide (200 < (L.length : Int)) = false := decide_eq_false (by omega)
  have H0 := Lib.hid h0
  clear h0
  have HS := Lib.hid hS
  clear hS
  go_enter Try.func4, Try.ntmps4
  go_wp2_with fail
  refine (KS.pairKS_new a0).mono ?_
  rintro ex u1 ⟨ca, ma, ka, va, rfl, hnew, hb⟩
  have HN1 := Lib.hid hnew
  have HB1 := Lib.hid hb
  clear hnew hb
  go_wp2_with fail
  refine (IK.pairIK_new a0).mono ?_
  rintro ex u2 ⟨cb, mb, kb, vb, rfl, hnew, hb⟩
  have HN2 := Lib.hid hnew
  have HB2 := Lib.hid hb
  clear hnew hb
  go_wp2_with fail
  refine (AB.pairAB_new a0).mono ?_
  rintro ex u3 ⟨cc, mc, kc, vc, rfl, hnew, hb⟩
  have HN3 := Lib.hid hnew
  have HB3 := Lib.hid hb
  clear hnew hb
  go_wp2_with fail
  refine (BU.pairBU_new a0).mono ?_
  rintro ex u4 ⟨cd, md, kd, vd, rfl, hnew, hb⟩
  have HN4 := Lib.hid hnew
  have HB4 := Lib.hid hb
  clear hnew hb
  go_upto_region 4 with fail
  generalize hu5 : ((((u4.alloc (.cells #[.pointer (some ⟨ca, 0, none⟩), .pointer (some ⟨ma, 0, none⟩), .pointer (some ⟨ka, 0, none⟩), .pointer (some ⟨va, 0, none⟩)] 40)).alloc (.cells #[.pointer (some ⟨cb, 0, none⟩), .pointer (some ⟨mb, 0, none⟩), .pointer (some ⟨kb, 0, none⟩), .pointer (some ⟨vb, 0, none⟩)] 44)).alloc (.cells #[.pointer (some ⟨cc, 0, none⟩), .pointer (some ⟨mc, 0, none⟩), .pointer (some ⟨kc, 0, none⟩), .pointer (some ⟨vc, 0, none⟩)] 50)).alloc (.cells #[.pointer (some ⟨cd, 0, none⟩), .pointer (some ⟨md, 0, none⟩), .pointer (some ⟨kd, 0, none⟩), .pointer (some ⟨vd, 0, none⟩)] 56)) = u5
  have HST := Lib.hid (kinds_start HB1.out HB2.out HB3.out HB4.out HN1.out HN2.out HN3.out HN4.out hu5)
  have HWB := Lib.hid (show w.heap.size ≤ u4.heap.size from Nat.le_trans HB1.out.size (Nat.le_trans HB2.out.size (Nat.le_trans HB3.out.size HB4.out.size)))
  clear hu5
  have a00 := HST.out.box1.p0
  have a01 := HST.out.box1.p1
  have a02 := HST.out.box1.p2
  have a03 := HST.out.box1.p3
  have a10 := HST.out.box2.p0
  have a11 := HST.out.box2.p1
  have a12 := HST.out.box2.p2
  have a13 := HST.out.box2.p3
  have a20 := HST.out.box3.p0
  have a21 := HST.out.box3.p1
  have a22 := HST.out.box3.p2
  have a23 := HST.out.box3.p3
  have a30 := HST.out.box4.p0
  have a31 := HST.out.box4.p1
  have a32 := HST.out.box4.p2
  have a33 := HST.out.box4.p3
  simp only [Nat.add_zero] at a00 a01 a02 a03
  go_wp2_with fail
  clear a00 a01 a02 a03 a10 a11 a12 a13 a20 a21 a22 a23 a30 a31 a32 a33
  go_loopg [9, 10] L.length (fun g i po wr => ∃ (j q : Nat), j + g = L.length ∧ i = .int .i64 (j : Nat) ∧ KindsAt w u4.heap.size q ca ma ka va cb mb kb vb cc mc kc vc cd md kd vd (clampN a0) j j j j wr)
  case atStart => exact ⟨0, _, by omega, rfl, HST.out⟩
  case round =>
    obtain ⟨j, q, hjg, rfl, hL⟩ := hrel
    have HL := Lib.hid hL
    clear hL
    have a00 := HL.out.box1.p0
    have a01 := HL.out.box1.p1
    have a02 := HL.out.box1.p2
    have a03 := HL.out.box1.p3
    have a10 := HL.out.box2.p0
    have a11 := HL.out.box2.p1
    have a12 := HL.out.box2.p2
    have a13 := HL.out.box2.p3
    have a20 := HL.out.box3.p0
    have a21 := HL.out.box3.p1
    have a22 := HL.out.box3.p2
    have a23 := HL.out.box3.p3
    have a30 := HL.out.box4.p0
    have a31 := HL.out.box4.p1
    have a32 := HL.out.box4.p2
    have a33 := HL.out.box4.p3
    simp only [Nat.add_zero] at a00 a01 a02 a03
    cases gk with
    | zero =>
      have hd : decide ((j : Int) < (L.length : Int)) = false := decide_eq_false (by omega)
      go_wp2_with fail
      refine (kinds_all1 HL.out (KS.clampN_le a0) (-1)).mono ?_
      rintro ex x1 ⟨rfl, hb⟩
      have HX1 := Lib.hid hb
      have HL1 := Lib.hid (HL.out.below hb)
      clear hb a00 a01 a02 a03 a10 a11 a12 a13 a20 a21 a22 a23 a30 a31 a32 a33
      have a10 := HL1.out.box2.p0
      have a11 := HL1.out.box2.p1
      have a12 := HL1.out.box2.p2
      have a13 := HL1.out.box2.p3
      have a20 := HL1.out.box3.p0
      have a21 := HL1.out.box3.p1
      have a22 := HL1.out.box3.p2
      have a23 := HL1.out.box3.p3
      have a30 := HL1.out.box4.p0
      have a31 := HL1.out.box4.p1
      have a32 := HL1.out.box4.p2
      have a33 := HL1.out.box4.p3
      go_wp2_with fail
      refine (kinds_all2 HL1.out (KS.clampN_le a0) (-1)).mono ?_
      rintro ex x2 ⟨rfl, hb⟩
      have HX2 := Lib.hid hb
      have HL2 := Lib.hid (HL1.out.below hb)
      clear hb a10 a11 a12 a13 a20 a21 a22 a23 a30 a31 a32 a33
      have a20 := HL2.out.box3.p0
      have a21 := HL2.out.box3.p1
      have a22 := HL2.out.box3.p2
      have a23 := HL2.out.box3.p3
      have a30 := HL2.out.box4.p0
      have a31 := HL2.out.box4.p1
      have a32 := HL2.out.box4.p2
      have a33 := HL2.out.box4.p3
      go_wp2_with fail
      refine (kinds_all3 HL2.out (KS.clampN_le a0) (-1)).mono ?_
      rintro ex x3 ⟨rfl, hb⟩
      have HX3 := Lib.hid hb
      have HL3 := Lib.hid (HL2.out.below hb)
      clear hb a20 a21 a22 a23 a30 a31 a32 a33
      have a30 := HL3.out.box4.p0
      have a31 := HL3.out.box4.p1
      have a32 := HL3.out.box4.p2
      have a33 := HL3.out.box4.p3
      go_wp2_with fail
      refine (kinds_all4 HL3.out (KS.clampN_le a0) (-1)).mono ?_
      rintro ex x4 ⟨rfl, hb⟩
      have HX4 := Lib.hid hb
      have HL4 := Lib.hid (HL3.out.below hb)
      clear hb a30 a31 a32 a33
      go_wp2_with fail
      go_ret
      exact ⟨rfl, HL4.out.toBelow⟩
    | succ gk =>
      have hj : j < L.length := by omega
      have hd : decide ((j : Int) < (L.length : Int)) = true := decide_eq_true (by omega)
      have j6 : (j : Int) + 1 ≤ 9223372036854775807 := by have := H0.out; omega
      obtain ⟨b, off, rfl, hbl, hop⟩ := HS.out.op HL.out.toBelow hj
      obtain ⟨c0, c1, c2, c3, c4, c5⟩ := hop
      generalize L[j] = op at c0 c1 c2 c3 c4 c5
      go_upto_region 10 with fail
      generalize hW1 : wr.alloc (.cells #[.int .i64 op.kind.1, .bool op.second, .string op.name.1, .int .i64 op.n.1, .int .i64 op.v.1, .int .i64 op.stop.1] 33) = W1
      obtain ⟨e1, e2, e3⟩ := op_new wr op hW1
      have HL0 := Lib.hid (HL.out.boxed e1 e2)
      have HOP0 := Lib.hid e3
      clear c0 c1 c2 c3 c4 c5 hW1 e1 e2 e3 a00 a01 a02 a03 a10 a11 a12 a13 a20 a21 a22 a23 a30 a31 a32 a33
      have a00 := HL0.out.box1.p0
      have a01 := HL0.out.box1.p1
      have a02 := HL0.out.box1.p2
      have a03 := HL0.out.box1.p3
      simp only [Nat.add_zero] at a00 a01 a02 a03
      have d0 := HOP0.out.c0
      have d1 := HOP0.out.c1
      have d2 := HOP0.out.c2
      have d3 := HOP0.out.c3
      have d4 := HOP0.out.c4
      have d5 := HOP0.out.c5
      simp only [Nat.zero_add] at d0 d1 d2 d3 d4 d5
      go_wp2_with fail
      refine (kinds_does1 HL0.out HWB.out (KS.clampN_le a0) (by have := H0.out; omega) op.kind.1 ⟨op.name, op.n⟩ op.name op.stop.1).mono ?_
      rintro ex W2 ⟨rfl, hL, hk⟩
      have HL1 := Lib.hid hL
      have HOP1 := Lib.hid (show OpAt W2 wr.heap.size 0 op from ⟨hk _ _ HOP0.out.c0, hk _ _ HOP0.out.c1, hk _ _ HOP0.out.c2, hk _ _ HOP0.out.c3, hk _ _ HOP0.out.c4, hk _ _ HOP0.out.c5⟩)
      clear hL hk d0 d1 d2 d3 d4 d5 a00 a01 a02 a03
      have a10 := HL1.out.box2.p0
      have a11 := HL1.out.box2.p1
      have a12 := HL1.out.box2.p2
      have a13 := HL1.out.box2.p3
      have d0 := HOP1.out.c0
      have d1 := HOP1.out.c1
      have d2 := HOP1.out.c2
      have d3 := HOP1.out.c3
      have d4 := HOP1.out.c4
      have d5 := HOP1.out.c5
      simp only [Nat.zero_add] at d0 d1 d2 d3 d4 d5
      go_wp2_with fail
      refine (kinds_does2 HL1.out HWB.out (KS.clampN_le a0) (by have := H0.out; omega) op.kind.1 op.n ⟨zeroS, op.v⟩ op.stop.1).mono ?_
      rintro ex W3 ⟨rfl, hL, hk⟩
      have HL2 := Lib.hid hL
      have HOP2 := Lib.hid (show OpAt W3 wr.heap.size 0 op from ⟨hk _ _ HOP1.out.c0, hk _ _ HOP1.out.c1, hk _ _ HOP1.out.c2, hk _ _ HOP1.out.c3, hk _ _ HOP1.out.c4, hk _ _ HOP1.out.c5⟩)
      clear hL hk d0 d1 d2 d3 d4 d5 a10 a11 a12 a13
      have a20 := HL2.out.box3.p0
      have a21 := HL2.out.box3.p1
      have a22 := HL2.out.box3.p2
      have a23 := HL2.out.box3.p3
      have d0 := HOP2.out.c0
      have d1 := HOP2.out.c1
      have d2 := HOP2.out.c2
      have d3 := HOP2.out.c3
      have d4 := HOP2.out.c4
      have d5 := HOP2.out.c5
      simp only [Nat.zero_add] at d0 d1 d2 d3 d4 d5
      go_wp2_with fail
      refine (kinds_does3 HL2.out HWB.out (KS.clampN_le a0) (by have := H0.out; omega) op.kind.1 ⟨⟨IntKind.u8.wrap op.n.1, u8_wf _⟩, ⟨IntKind.u8.wrap (op.name.1.size : Int), u8_wf _⟩⟩ (decide (0 < op.v.1)) op.stop.1).mono ?_
      rintro ex W4 ⟨rfl, hL, hk⟩
      have HL3 := Lib.hid hL
      have HOP3 := Lib.hid (show OpAt W4 wr.heap.size 0 op from ⟨hk _ _ HOP2.out.c0, hk _ _ HOP2.out.c1, hk _ _ HOP2.out.c2, hk _ _ HOP2.out.c3, hk _ _ HOP2.out.c4, hk _ _ HOP2.out.c5⟩)
      clear hL hk d0 d1 d2 d3 d4 d5 a20 a21 a22 a23
      have a30 := HL3.out.box4.p0
      have a31 := HL3.out.box4.p1
      have a32 := HL3.out.box4.p2
      have a33 := HL3.out.box4.p3
      have d0 := HOP3.out.c0
      have d1 := HOP3.out.c1
      have d2 := HOP3.out.c2
      have d3 := HOP3.out.c3
      have d4 := HOP3.out.c4
      have d5 := HOP3.out.c5
      simp only [Nat.zero_add] at d0 d1 d2 d3 d4 d5
      go_wp2_with fail
      refine (kinds_does4 HL3.out HWB.out (KS.clampN_le a0) (by have := H0.out; omega) op.kind.1 (decide (3 < op.n.1)) ⟨IntKind.u8.wrap op.v.1, u8_wf _⟩ op.stop.1).mono ?_
      rintro ex W5 ⟨rfl, hL, hk⟩
      have HL4 := Lib.hid hL
      have HOP4 := Lib.hid (show OpAt W5 wr.heap.size 0 op from ⟨hk _ _ HOP3.out.c0, hk _ _ HOP3.out.c1, hk _ _ HOP3.out.c2, hk _ _ HOP3.out.c3, hk _ _ HOP3.out.c4, hk _ _ HOP3.out.c5⟩)
      clear hL hk d0 d1 d2 d3 d4 d5 a30 a31 a32 a33
      go_wp2_with fail
      go_roundg gk
      case measure => omega
      case rel => exact ⟨j + 1, _, by omega, by go_num, HL4.out⟩


set_option maxRecDepth 100000 in
theorem lifted (os : Os) (started : os.Started) (H : Type) (enc : TypeId × Value → H) :
    ReturnsInHanded {} Try.checked os 4 .any (Rows.cacheKindsSpec.pre6 enc Try.prog Try.f4 Rows.cacheKindsRow.domain false) (Rows.cacheKindsSpec.post enc Try.prog Try.f4 false true false false) := by
  refine returnsInHanded_of_change (C := Try.checked) own started (by kernel_rfl) Try.func4
    (ChangeSpec.witness6 (enc := enc) (C := Try.checked) false ⟨#[], #[.int .i64 0, .slice none 0 0], []⟩ 8 (by kernel_rfl) (by kernel_rfl) (by kernel_rfl) (by kernel_rfl)) ?_
  intro W base args ds gs before hval0 hW hcnd _
  have hval : ∀ (j : Nat) t v, Try.f4.params[j]? = some t → args[j]? = some v → Value.okWide Try.prog W .any base t v := hval0
  have hW' := hW
  obtain ⟨p, q, hA0, hV, rfl, hfz, hnd⟩ := hW
  have hA : DataW.TrodAll enc Try.prog W 0 (fun _ => true) true Try.f4.params.toList args.toList ds p := hA0
  rw [Try.params4] at hA hval
  obtain ⟨v0, vs0, d0, ds0, p0, q0, hargs, rfl, rfl, h0, r0⟩ := trodAll_cons hA
  obtain ⟨v1, vs1, d1, ds1, p1, q1, rfl, rfl, rfl, h1, r1⟩ := trodAll_cons r0
  obtain ⟨rfl, rfl, rfl⟩ := trodAll_nil r1
  obtain rfl : args = #[v0, v1] := by cases args; simp_all
  obtain ⟨rfl, rfl⟩ := trodVars_none hV
  obtain ⟨a0, rfl, rfl, rfl, w0⟩ := open_int Try.underlying3 (hval 0 3 v0 rfl rfl) h0
  obtain ⟨sa, L, cap, rfl, hlen, hS⟩ := open_script (okWide_slice Try.underlying22 (hval 1 22 v1 rfl rfl)) h1
  clear hA0 hval0
  simp only [List.append_nil, List.nil_append] at hW'
  refine (walk a0 w0 sa L cap hlen W hS).mono fun e W' ⟨he, hg⟩ => ?_
  subst he
  have hshut := (trodAll_cons_mk (shut_int Try.underlying3 w0) (trodAll_cons_mk (again script_readable script_row h1 hg) trodAll_mk0))
  simp only [List.append_nil, List.nil_append] at hshut
  exact ⟨_, rfl, law_post hW' hg (fun _ => (trodAll_cons_mk (shut_bool Try.underlying4 _) trodAll_mk0)) hshut rfl⟩

theorem over : Rows.cacheKindsRow.holds Try.pinned (OpenSpec.ofChange Rows.cacheKindsSpec) :=
  OpenClaim.holds_of_wide 4 Try.f4 rfl rfl rfl rfl rfl rfl rfl ⟨rfl, rfl, rfl, rfl, rfl⟩ rfl rfl rfl rfl rfl (by kernel_rfl) Try.func4 (by kernel_rfl)
    (of_decide_eq_true (by kernel_rfl)) (by unfold Func.isWrapper; first | (rw [if_pos (by decide +kernel)]; kernel_rfl) | (rw [if_neg (by decide +kernel)]; exact ⟨rfl, rfl⟩))
    (fun os started H enc _ => lifted os started H enc)

theorem proved : Rows.CacheKindsSaid :=
  over
#print axioms proved
end Go.Proofs.Yteboancapfgdeaa.cacheKinds
