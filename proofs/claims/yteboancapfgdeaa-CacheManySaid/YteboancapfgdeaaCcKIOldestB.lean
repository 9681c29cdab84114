/- Proved here: Oldest of a cache. -/
import Derived.Test.YteboancapfgdeaaCcKIOldest
import Derived.Test.YteboancapfgdeaaRgAssign
import Derived.Test.YteboancapfgdeaaCcKIGivenB
namespace Go.Proofs.Yteboancapfgdeaa.KI
open Go.RowKit Go.Shelf Go.Proofs.Cc Go.Proofs.Rg
attribute [local go_sem] Oper.semAt_some

theorem cell_new_o (w : World) (v : Value) (t : TypeId) : (w.alloc (.cells #[v] t)).cell? ⟨w.heap.size, 0, none⟩ = some v ∧ (w.alloc (.cells #[v] t)).frozen? ⟨w.heap.size, 0, none⟩ = false := by
  have hh := (MapKept.heap_alloc w (.cells #[v] t)).1
  exact ⟨by unfold World.cell?; simp only; rw [hh]; rfl, by unfold World.frozen?; simp only; rw [hh]; rfl⟩

theorem cell_alloc_o {w : World} {a : Addr} {v : Value} (o : Obj) (h : w.cell? a = some v) : (w.alloc o).cell? a = some v := (World.cell?_of_block (w := w) (Below.heap_alloc w o _ (World.block_lt_of_cell? w a h))).trans h
theorem frozen_alloc_o {w : World} {a : Addr} {v : Value} (o : Obj) (h : w.cell? a = some v) (hf : w.frozen? a = false) : (w.alloc o).frozen? a = false := (World.frozen?_of_block (w := w) (Below.heap_alloc w o _ (World.block_lt_of_cell? w a h))).trans hf

/-- The cells of the two results. -/
structure OldAt (kb ob : Nat) (pre : List (KeyV × I64)) (W : World) : Prop where
  k0 : W.cell? ⟨kb, 0, none⟩ = some (.string ((pre.getLast?.map (·.1)).getD zeroK).name.1)
  k1 : W.cell? ⟨kb, 1, none⟩ = some (.int .i64 ((pre.getLast?.map (·.1)).getD zeroK).n.1)
  f0 : W.frozen? ⟨kb, 0, none⟩ = false
  f1 : W.frozen? ⟨kb, 1, none⟩ = false
  o0 : W.cell? ⟨ob, 0, none⟩ = some (.bool pre.getLast?.isSome)
  g0 : W.frozen? ⟨ob, 0, none⟩ = false

theorem OldAt.own (kb ob : Nat) : Own (fun pre W => OldAt kb ob pre W) := fun s A B row hs hg hr =>
  ⟨cell_kept hs.k0 hg hr, cell_kept hs.k1 hg hr, (frozen_kept hs.k0 hg hr).trans hs.f0, (frozen_kept hs.k1 hg hr).trans hs.f1, cell_kept hs.o0 hg hr, (frozen_kept hs.o0 hg hr).trans hs.g0⟩

theorem OldAt.set {kb ob : Nat} {pre : List (KeyV × I64)} {W : World} (h : OldAt kb ob pre W) (hne : kb ≠ ob) (x : KeyV × I64) :
    OldAt kb ob (pre ++ [x]) (((W.setCell ⟨kb, 0, none⟩ (.string x.1.name.1)).setCell ⟨kb, 1, none⟩ (.int .i64 x.1.n.1)).setCell ⟨ob, 0, none⟩ (.bool true)) := by
  have c0 := cell_set_same (v := .string x.1.name.1) h.k0
  have c1 : (W.setCell ⟨kb, 0, none⟩ (.string x.1.name.1)).cell? ⟨kb, 1, none⟩ = _ := (cell_set_other (.inr (by simp))).trans h.k1
  have c2 : ((W.setCell ⟨kb, 0, none⟩ (.string x.1.name.1)).setCell ⟨kb, 1, none⟩ (.int .i64 x.1.n.1)).cell? ⟨ob, 0, none⟩ = _ := (cell_set_other (.inl hne)).trans ((cell_set_other (.inl hne)).trans h.o0)
  refine ⟨?_, ?_, ?_, ?_, ?_, ?_⟩
  · rw [cell_set_other (.inl (Ne.symm hne)), cell_set_other (.inr (by simp)), c0]; simp
  · rw [cell_set_other (.inl (Ne.symm hne)), cell_set_same c1]; simp
  · rw [World.frozen?_setCell, World.frozen?_setCell, World.frozen?_setCell]; exact h.f0
  · rw [World.frozen?_setCell, World.frozen?_setCell, World.frozen?_setCell]; exact h.f1
  · rw [cell_set_same c2]; simp
  · rw [World.frozen?_setCell, World.frozen?_setCell, World.frozen?_setCell]; exact h.g0

set_option maxRecDepth 100000 in
set_option maxHeartbeats 2000000 in
theorem oldestKI_any {w : World} {c : Nat} {S : Nat → Prop} {most : Nat} {E : List (Ent KeyV I64)} (HC : CacheAt Try.prog 31 kdK kdI w c S most E) :
    Calls Try.prog 106 #[.pointer (some ⟨c, 0, none⟩)] w fun ex w' => ex = .returned (.tuple #[.agg #[.string ((E.getLast?.map (·.key)).getD zeroK).name.1, .int .i64 ((E.getLast?.map (·.key)).getD zeroK).n.1], .bool E.getLast?.isSome]) ∧ Below w.heap.size w w' := by
  refine (callsIn_wide (n := 3)).1 ?_
  have hro : Fence.wide.round = none := rfl
  refine callsIn_of_wp_marks Try.func106 rfl trivial ?_ rfl
  simp only [Try.ntmps106, List.size_toArray, List.length_cons, List.length_nil, Nat.reduceAdd, Nat.reduceSub, Array.replicate_succ, Array.replicate_zero, List.push_toArray, List.append_toArray, List.nil_append, List.cons_append]
  gi_wp2
  refine ⟨trivial, ?_⟩
  refine (callsIn_wide.2 (allKI_any c)).mono ?_
  rintro ex W1 ⟨rfl, hW1⟩
  obtain ⟨b1, s1, x0, x1⟩ := box2 w (.string ⟨#[]⟩) (.int .i64 0) 31 rfl
  have y0 := cell_new_o (w.alloc (.cells #[.string ⟨#[]⟩, .int .i64 0] 31)) (.bool false) 4
  have z0 := cell_new_o ((w.alloc (.cells #[.string ⟨#[]⟩, .int .i64 0] 31)).alloc (.cells #[.bool false] 4)) (.pointer (some ⟨c, 0, none⟩)) 64
  simp only [World.size_alloc] at y0 z0
  have fz : ∀ o, (w.alloc (.cells #[.string ⟨#[]⟩, .int .i64 0] 31)).frozen? ⟨w.heap.size, o, none⟩ = false := fun o => Live.frozen ⟨_, _, (MapKept.heap_alloc w (.cells #[.string ⟨#[]⟩, .int .i64 0] 31)).1⟩ o none
  rw [← show W1 = _ from hW1] at z0
  have hB0 : Below w.heap.size w W1 := by rw [hW1]; exact (((Below.refl _ w).alloc (Nat.le_refl _) _).alloc (by simp) _).alloc (by simp; omega) _
  have hsz : W1.heap.size = w.heap.size + 3 := by rw [hW1]; simp
  have hI0 : OldAt w.heap.size (w.heap.size + 1) [] W1 := by
    rw [hW1]
    exact ⟨cell_alloc_o _ (cell_alloc_o _ x0), cell_alloc_o _ (cell_alloc_o _ x1), frozen_alloc_o _ (cell_alloc_o _ x0) (frozen_alloc_o _ x0 (fz 0)), frozen_alloc_o _ (cell_alloc_o _ x1) (frozen_alloc_o _ x1 (fz 1)), cell_alloc_o _ y0.1, frozen_alloc_o _ y0.1 y0.2⟩
  have hC1 := (CacheAt.tight HC).frame (Below.toSame hB0)
  clear hW1 b1 s1 x0 x1 y0 fz
  gi_wp2
  refine wpIn_rangeFunc_lays rfl (by omega) (gf := 154) (lb := #[.pointer (some ⟨w.heap.size + 1 + 1, 0, none⟩)]) rfl trivial (enters_of Try.func154 (by kernel_rfl) rfl)
    (allKI_stops hC1 (w.heap.size + 1 + 1) z0.1 (3 - 1) (by omega) (fun x => x = w.heap.size ∨ x = w.heap.size + 1 ∨ W1.heap.size ≤ x) (fun x hx hl hs => by rcases hs with hs | hs <;> omega)) (fun h k => h.trans (k.mono (fun x hx => .inl hx)))
    (fun W l o o' hl h _ _ => ((Turn.refl _ W).grown (grownBy_putObj' W l o') (fun x e => by cases e; exact .inl (.inr (.inr hl))))) (Below.refl _ _) (fun _ => rfl)
    (fun pre W => OldAt w.heap.size (w.heap.size + 1) pre W ∧ Below w.heap.size w W)
    (fun _ _ _ => False)
    (OwnFrom.and (Own.from (OldAt.own _ _) _) (ownFrom_below (Nat.le_refl _) (by omega)))
    (fun _ _ _ _ _ hs _ _ => hs)
    ⟨hI0, hB0⟩
    (fun x a1 pre W => (∃ b, a1 = { tmps := #[.pointer (some ⟨c, 0, none⟩), undef, .pointer (some ⟨w.heap.size, 0, none⟩), .pointer (some ⟨w.heap.size + 1, 0, none⟩), .pointer (some ⟨b, 0, none⟩), .pointer (some ⟨c, 0, none⟩), .func (.func 154) #[] #[.pointer (some ⟨w.heap.size + 1 + 1, 0, none⟩)], .agg #[.string x.1.name.1, .int .i64 x.1.n.1], .int .i64 x.2.1, undef, undef, undef], defers := [] } ∧
      W.cell? ⟨b, 0, none⟩ = some (.string x.1.name.1) ∧ W.cell? ⟨b, 1, none⟩ = some (.int .i64 x.1.n.1)) ∧ OldAt w.heap.size (w.heap.size + 1) pre W ∧ Below w.heap.size w W)
    ?own ?assign ?body ?done ?stop
  case own =>
    intro x a1
    refine OwnFrom.and ?_ (OwnFrom.and (Own.from (OldAt.own _ _) _) (ownFrom_below (Nat.le_refl _) (by omega)))
    rintro s A B row ⟨b, ha, h1, h2⟩ hg hr
    exact ⟨b, ha, cell_kept h1 hg (fun r e => (hr r e).2), cell_kept h2 hg (fun r e => (hr r e).2)⟩
  case assign =>
    rintro l pre x W K ⟨hO, hB⟩ hK
    gi_wp2
    obtain ⟨_, _, y0, y1⟩ := box2 W (.string x.1.name.1) (.int .i64 x.1.n.1) 31 rfl
    exact hK _ _ (KeepsFrom.of_grownBy (World.grownBy_alloc W _ none) (fun j e => by cases e)) ((Turn.refl _ W).alloc _) ⟨⟨W.heap.size, rfl, y0, y1⟩, (OldAt.own _ _) _ _ _ none hO (World.grownBy_alloc W _ none) (fun r e => by cases e), hB.alloc hB.size _⟩
  case body =>
    rintro l pre x a1 W ⟨⟨b, rfl, h1, h2⟩, hO, hB⟩ _
    have HO := Lib.hid hO
    obtain ⟨k0, k1, f0, f1, o0, g0⟩ := hO
    gi_wp2
    refine ⟨((KeepsOthers.setCell _ _ _).trans ((KeepsOthers.setCell _ _ _).trans (KeepsOthers.setCell _ _ _))).from _, (((Turn.refl _ W).setCell (p := ⟨w.heap.size, 0, none⟩) (.inl (.inl rfl)) _).setCell (p := ⟨w.heap.size, 1, none⟩) (.inl (.inl rfl)) _).setCell (p := ⟨w.heap.size + 1, 0, none⟩) (.inl (.inr (.inl rfl))) _, HO.out.set (by omega) x,
      ((hB.setCell (p := ⟨w.heap.size, 0, none⟩) (Nat.le_refl _) _).setCell (p := ⟨w.heap.size, 1, none⟩) (Nat.le_refl _) _).setCell (p := ⟨w.heap.size + 1, 0, none⟩) (Nat.le_succ _) _⟩
  case done =>
    rintro D ys W hD rfl ⟨hO, hB⟩ hK
    have hv : ((E.map kv).getLast?.map (·.1)).getD zeroK = (E.getLast?.map (·.key)).getD zeroK := by rw [List.getLast?_map, Option.map_map]; rfl
    have hb : (E.map kv).getLast?.isSome = E.getLast?.isSome := by rw [List.getLast?_map, Option.isSome_map]
    obtain ⟨k0, k1, f0, f1, o0, g0⟩ := hO
    rw [hv] at k0 k1
    rw [hb] at o0
    obtain ⟨kx, hkx⟩ : ∃ kx, (E.getLast?.map (·.key)).getD zeroK = kx := ⟨_, rfl⟩
    obtain ⟨bx, hbx⟩ : ∃ bx, E.getLast?.isSome = bx := ⟨_, rfl⟩
    rw [hkx] at k0 k1
    rw [hbx] at o0
    have HKX := Lib.hid hkx
    have HBX := Lib.hid hbx
    clear hv hb hkx hbx
    gi_wp2
    have hmix : (Try.prog).follows .mixedOrders = true := by kernel_rfl
    gi_region_with_o (fail)
    all_goals gi_wp2
    all_goals
      have q0 := cell_set_same (v := .string kx.name.1) k0
      have q1 : (W.setCell ⟨w.heap.size, 0, none⟩ (.string kx.name.1)).cell? ⟨w.heap.size, 1, none⟩ = _ := (cell_set_other (.inr (by simp))).trans k1
      have q2 : ((W.setCell ⟨w.heap.size, 0, none⟩ (.string kx.name.1)).setCell ⟨w.heap.size, 1, none⟩ (.int .i64 kx.n.1)).cell? ⟨w.heap.size + 1, 0, none⟩ = _ := (cell_set_other (.inl (by omega))).trans ((cell_set_other (.inl (by omega))).trans o0)
      have hKO := (KeepsOthers.setCell W ⟨w.heap.size, 0, none⟩ (.string kx.name.1)).trans ((KeepsOthers.setCell _ ⟨w.heap.size, 1, none⟩ (.int .i64 kx.n.1)).trans (KeepsOthers.setCell _ ⟨w.heap.size + 1, 0, none⟩ (.bool bx)))
      have hBB := ((hB.setCell (p := ⟨w.heap.size, 0, none⟩) (Nat.le_refl _) (.string kx.name.1)).setCell (p := ⟨w.heap.size, 1, none⟩) (Nat.le_refl _) (.int .i64 kx.n.1)).setCell (p := ⟨w.heap.size + 1, 0, none⟩) (Nat.le_succ _) (.bool bx)
      have r0 : (((W.setCell ⟨w.heap.size, 0, none⟩ (.string kx.name.1)).setCell ⟨w.heap.size, 1, none⟩ (.int .i64 kx.n.1)).setCell ⟨w.heap.size + 1, 0, none⟩ (.bool bx)).cell? ⟨w.heap.size, 0, none⟩ = some (.string kx.name.1) := by
        rw [cell_set_other (.inl (by omega)), cell_set_other (.inr (by simp)), q0]
      have r1 : (((W.setCell ⟨w.heap.size, 0, none⟩ (.string kx.name.1)).setCell ⟨w.heap.size, 1, none⟩ (.int .i64 kx.n.1)).setCell ⟨w.heap.size + 1, 0, none⟩ (.bool bx)).cell? ⟨w.heap.size, 1, none⟩ = some (.int .i64 kx.n.1) := by
        rw [cell_set_other (.inl (by omega)), cell_set_same q1]
      have r2 := cell_set_same (v := .bool bx) q2
      have hK' := hKO.same D _ hK rfl
      generalize (((W.setCell ⟨w.heap.size, 0, none⟩ (.string kx.name.1)).setCell ⟨w.heap.size, 1, none⟩ (.int .i64 kx.n.1)).setCell ⟨w.heap.size + 1, 0, none⟩ (.bool bx)) = V at r0 r1 r2 hK' hBB ⊢
      replace r0 : V.drew.cell? ⟨w.heap.size, 0, none⟩ = _ := r0
      replace r1 : V.drew.cell? ⟨w.heap.size, 1, none⟩ = _ := r1
      replace r2 : V.drew.cell? ⟨w.heap.size + 1, 0, none⟩ = _ := r2
      replace hK' : V.drew.heap[D]? = _ := hK'
      have t0 := cell_kept r0 (grownBy_putObj' _ D (.deferred none)) (fun r e => by cases e; exact ⟨_, hK', rfl⟩)
      have t1 := cell_kept r1 (grownBy_putObj' _ D (.deferred none)) (fun r e => by cases e; exact ⟨_, hK', rfl⟩)
      have t2 := cell_kept r2 (grownBy_putObj' _ D (.deferred none)) (fun r e => by cases e; exact ⟨_, hK', rfl⟩)
      have hBE := hBB.drew.trans (belowK_b (w := w) (Nat.le_refl _) _ D _ (.deferred none) (by omega) hK' rfl rfl)
      refine ⟨by simp, .inl ⟨_, _, rfl, run_takeDeferred hK', ?_⟩⟩
      refine ⟨.tuple #[.agg #[.string kx.name.1, .int .i64 kx.n.1], .bool bx], ?_, by rw [HKX.out, HBX.out], hBE⟩
      simp [results, Try.f106, go_sem, t0, t1, t2]
  case stop =>
    rintro D c' pre W hD hpre h hK
    exact h.elim

end Go.Proofs.Yteboancapfgdeaa.KI
