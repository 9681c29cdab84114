/- Proved here: Oldest of a cache. -/
import Derived.Test.YteboancapfgdeaaCcSIOldest
import Derived.Test.YteboancapfgdeaaCcSIGivenB
namespace Go.Proofs.Yteboancapfgdeaa.SI
open Go.RowKit Go.Shelf Go.Proofs.Cc
attribute [local go_sem] Oper.semAt_some

theorem cell_new_o (w : World) (v : Value) (t : TypeId) : (w.alloc (.cells #[v] t)).cell? ⟨w.heap.size, 0, none⟩ = some v ∧ (w.alloc (.cells #[v] t)).frozen? ⟨w.heap.size, 0, none⟩ = false := by
  have hh := (MapKept.heap_alloc w (.cells #[v] t)).1
  exact ⟨by unfold World.cell?; simp only; rw [hh]; rfl, by unfold World.frozen?; simp only; rw [hh]; rfl⟩

theorem cell_alloc_o {w : World} {a : Addr} {v : Value} (o : Obj) (h : w.cell? a = some v) : (w.alloc o).cell? a = some v := (World.cell?_of_block (w := w) (Below.heap_alloc w o _ (World.block_lt_of_cell? w a h))).trans h
theorem frozen_alloc_o {w : World} {a : Addr} {v : Value} (o : Obj) (h : w.cell? a = some v) (hf : w.frozen? a = false) : (w.alloc o).frozen? a = false := (World.frozen?_of_block (w := w) (Below.heap_alloc w o _ (World.block_lt_of_cell? w a h))).trans hf

set_option maxRecDepth 100000 in
set_option maxHeartbeats 2000000 in
theorem oldestSI_any {w : World} {c : Nat} {S : Nat → Prop} {most : Nat} {E : List (Ent Str I64)} (HC : CacheAt Try.prog 9 kdS kdI w c S most E) :
    Calls Try.prog 56 #[.pointer (some ⟨c, 0, none⟩)] w fun ex w' => ex = .returned (.tuple #[.string ((E.getLast?.map (·.key)).getD zeroS).1, .bool E.getLast?.isSome]) ∧ Below w.heap.size w w' := by
  refine (callsIn_wide (n := 3)).1 ?_
  have hro : Fence.wide.round = none := rfl
  refine callsIn_of_wp_marks Try.func56 rfl trivial ?_ rfl
  simp only [Try.ntmps56, List.size_toArray, List.length_cons, List.length_nil, Nat.reduceAdd, Nat.reduceSub, Array.replicate_succ, Array.replicate_zero, List.push_toArray, List.append_toArray, List.nil_append, List.cons_append]
  gi_wp2
  refine ⟨trivial, ?_⟩
  refine (callsIn_wide.2 (allSI_any c)).mono ?_
  rintro ex W1 ⟨rfl, hW1⟩
  have c0 := cell_new_o w (.string ⟨#[]⟩) 9
  have c1 := cell_new_o (w.alloc (.cells #[.string ⟨#[]⟩] 9)) (.bool false) 4
  have c2 := cell_new_o ((w.alloc (.cells #[.string ⟨#[]⟩] 9)).alloc (.cells #[.bool false] 4)) (.pointer (some ⟨c, 0, none⟩)) 23
  simp only [World.size_alloc] at c1 c2
  rw [← show W1 = _ from hW1] at c2
  have hB0 : Below w.heap.size w W1 := by rw [hW1]; exact (((Below.refl _ w).alloc (Nat.le_refl _) _).alloc (by simp) _).alloc (by simp; omega) _
  have hsz : W1.heap.size = w.heap.size + 3 := by rw [hW1]; simp
  have k0 : W1.cell? ⟨w.heap.size, 0, none⟩ = some (.string ⟨#[]⟩) ∧ W1.frozen? ⟨w.heap.size, 0, none⟩ = false := by
    rw [hW1]
    exact ⟨cell_alloc_o _ (cell_alloc_o _ c0.1), frozen_alloc_o _ (cell_alloc_o _ c0.1) (frozen_alloc_o _ c0.1 c0.2)⟩
  have k1 : W1.cell? ⟨w.heap.size + 1, 0, none⟩ = some (.bool false) ∧ W1.frozen? ⟨w.heap.size + 1, 0, none⟩ = false := by
    rw [hW1]
    exact ⟨cell_alloc_o _ c1.1, frozen_alloc_o _ c1.1 c1.2⟩
  have hC1 := (CacheAt.tight HC).frame (Below.toSame hB0)
  clear hW1 c0 c1
  gi_wp2
  refine wpIn_rangeFunc_ownF rfl (by omega) (gf := 132) (lb := #[.pointer (some ⟨w.heap.size + 1 + 1, 0, none⟩)]) rfl trivial (enters_of Try.func132 (by kernel_rfl) rfl)
    (allSI_stops hC1 (w.heap.size + 1 + 1) c2.1 (3 - 1) (by omega) (fun x => x = w.heap.size ∨ x = w.heap.size + 1 ∨ W1.heap.size ≤ x) (fun x hx hl hs => by rcases hs with hs | hs <;> omega)) (fun h k => h.trans (k.mono (fun x hx => .inl hx)))
    (fun W l o o' hl h _ _ => ((Turn.refl _ W).grown (grownBy_putObj' W l o') (fun x e => by cases e; exact .inl (.inr (.inr hl))))) (Below.refl _ _) (fun _ => rfl)
    (fun pre W => (W.cell? ⟨w.heap.size, 0, none⟩ = some (.string ((pre.getLast?.map (·.1)).getD zeroS).1) ∧ W.frozen? ⟨w.heap.size, 0, none⟩ = false ∧ W.cell? ⟨w.heap.size + 1, 0, none⟩ = some (.bool pre.getLast?.isSome) ∧ W.frozen? ⟨w.heap.size + 1, 0, none⟩ = false) ∧ Below w.heap.size w W)
    (fun _ _ _ => False)
    (OwnFrom.and (Own.from (fun s A B row hs hg hr => ⟨cell_kept hs.1 hg hr, (frozen_kept hs.1 hg hr).trans hs.2.1, cell_kept hs.2.2.1 hg hr, (frozen_kept hs.2.2.1 hg hr).trans hs.2.2.2⟩) _) (ownFrom_below (Nat.le_refl _) (by omega)))
    (fun _ _ _ _ _ hs _ _ => hs)
    ⟨⟨k0.1, k0.2, k1.1, k1.2⟩, hB0⟩
    (fun x => { tmps := #[.pointer (some ⟨c, 0, none⟩), undef, .pointer (some ⟨w.heap.size, 0, none⟩), .pointer (some ⟨w.heap.size + 1, 0, none⟩), .string x.1.1, .pointer (some ⟨c, 0, none⟩), .func (.func 132) #[] #[.pointer (some ⟨w.heap.size + 1 + 1, 0, none⟩)], .string x.1.1, .int .i64 x.2.1, undef, undef, undef], defers := [] }) ?assign ?body ?done ?stop
  case assign =>
    intro l x W K hK
    gi_wp2
    exact hK
  case body =>
    rintro l pre x W ⟨⟨hc, hf, hc2, hf2⟩, hB⟩ _
    gi_wp2
    have hc' : (W.setCell ⟨w.heap.size, 0, none⟩ (.string x.1.1)).cell? ⟨w.heap.size + 1, 0, none⟩ = some (.bool pre.getLast?.isSome) := (cell_set_other (.inl (by omega))).trans hc2
    refine ⟨(KeepsOthers.setCell _ _ _).trans (KeepsOthers.setCell _ _ _), ((Turn.refl _ W).setCell (p := ⟨w.heap.size, 0, none⟩) (.inl (.inl rfl)) _).setCell (p := ⟨w.heap.size + 1, 0, none⟩) (.inl (.inr (.inl rfl))) _, ⟨?_, ?_, ?_, ?_⟩, (hB.setCell (p := ⟨w.heap.size, 0, none⟩) (Nat.le_refl _) _).setCell (p := ⟨w.heap.size + 1, 0, none⟩) (Nat.le_succ _) _⟩
    · rw [cell_set_other (.inl (by omega)), cell_set_same hc]
      simp
    · rw [World.frozen?_setCell, World.frozen?_setCell]; exact hf
    · rw [cell_set_same hc']
      simp
    · rw [World.frozen?_setCell, World.frozen?_setCell]; exact hf2
  case done =>
    rintro D ys W hD rfl ⟨⟨hc, hf, hc2, hf2⟩, hB⟩ hK
    have hv : ((E.map kv).getLast?.map (·.1)).getD zeroS = (E.getLast?.map (·.key)).getD zeroS := by rw [List.getLast?_map, Option.map_map]; rfl
    have hb : (E.map kv).getLast?.isSome = E.getLast?.isSome := by rw [List.getLast?_map, Option.isSome_map]
    rw [hv] at hc
    rw [hb] at hc2
    obtain ⟨kx, hkx⟩ : ∃ kx, (E.getLast?.map (·.key)).getD zeroS = kx := ⟨_, rfl⟩
    obtain ⟨bx, hbx⟩ : ∃ bx, E.getLast?.isSome = bx := ⟨_, rfl⟩
    rw [hkx] at hc
    rw [hbx] at hc2
    have HKX := Lib.hid hkx
    have HBX := Lib.hid hbx
    clear hv hb hkx hbx
    gi_wp2
    have hmix : (Try.prog).follows .mixedOrders = true := by kernel_rfl
    gi_region_with_o (fail)
    all_goals gi_wp2
    all_goals
      have hc' : (W.setCell ⟨w.heap.size, 0, none⟩ (.string kx.1)).cell? ⟨w.heap.size + 1, 0, none⟩ = some (.bool bx) := (cell_set_other (.inl (by omega))).trans hc2
      have hK' : ((W.setCell ⟨w.heap.size, 0, none⟩ (.string kx.1)).setCell ⟨w.heap.size + 1, 0, none⟩ (.bool bx)).drew.heap[D]? = some (.deferred (some [])) :=
        ((KeepsOthers.setCell W ⟨w.heap.size, 0, none⟩ (.string kx.1)).trans (KeepsOthers.setCell _ ⟨w.heap.size + 1, 0, none⟩ (.bool bx))).same D _ hK rfl
      have q1 : ((W.setCell ⟨w.heap.size, 0, none⟩ (.string kx.1)).setCell ⟨w.heap.size + 1, 0, none⟩ (.bool bx)).drew.cell? ⟨w.heap.size, 0, none⟩ = some (.string kx.1) := (cell_set_other (w := W.setCell ⟨w.heap.size, 0, none⟩ (.string kx.1)) (.inl (by omega))).trans (cell_set_same hc)
      have q2 : ((W.setCell ⟨w.heap.size, 0, none⟩ (.string kx.1)).setCell ⟨w.heap.size + 1, 0, none⟩ (.bool bx)).drew.cell? ⟨w.heap.size + 1, 0, none⟩ = some (.bool bx) := cell_set_same (w := W.setCell ⟨w.heap.size, 0, none⟩ (.string kx.1)) hc'
      have hc5 := cell_kept q1 (grownBy_putObj' _ D (.deferred none)) (fun r e => by cases e; exact ⟨_, hK', rfl⟩)
      have hc6 := cell_kept q2 (grownBy_putObj' _ D (.deferred none)) (fun r e => by cases e; exact ⟨_, hK', rfl⟩)
      have hBB := (((hB.setCell (p := ⟨w.heap.size, 0, none⟩) (Nat.le_refl _) (.string kx.1)).setCell (p := ⟨w.heap.size + 1, 0, none⟩) (Nat.le_succ _) (.bool bx)).drew).trans (belowK_b (w := w) (Nat.le_refl _) _ D _ (.deferred none) (by omega) hK' rfl rfl)
      refine ⟨by simp, .inl ⟨_, _, rfl, run_takeDeferred hK', ?_⟩⟩
      refine ⟨.tuple #[.string kx.1, .bool bx], ?_, by rw [HKX.out, HBX.out], hBB⟩
      simp [results, Try.f56, go_sem, hc5, hc6]
  case stop =>
    rintro D c' pre W hD hpre h hK
    exact h.elim

end Go.Proofs.Yteboancapfgdeaa.SI
