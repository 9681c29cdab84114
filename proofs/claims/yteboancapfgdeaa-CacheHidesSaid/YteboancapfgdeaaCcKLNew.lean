/- Proved here: New of a cache; the making of an iterator. -/
import Derived.Test.YteboancapfgdeaaCcKLPut
import Derived.Test.YteboancapfgdeaaCcRefB
namespace Go.Proofs.Yteboancapfgdeaa.KL
open Go.RowKit Go.Proofs.Cc

/-- The new struct, ahead of 'empty'. -/
theorem new_facts (w : World) (n : Nat) (x : Int) (hx : x = (n : Int)) {most : Nat} (hn : n = most) :
    (w.alloc (.cells #[.int .i64 x, .pointer none, .map none] 197)).cell? ⟨w.heap.size, 1, none⟩ = some (.pointer none) ∧
    (w.alloc (.cells #[.int .i64 x, .pointer none, .map none] 197)).cell? ⟨w.heap.size, 2, none⟩ = some (.map none) ∧
    Live (w.alloc (.cells #[.int .i64 x, .pointer none, .map none] 197)) w.heap.size ∧
    ∀ w1, w1 = (emptied (w.alloc (.cells #[.int .i64 x, .pointer none, .map none] 197)) w.heap.size 203 [.string ByteArray.empty, .int .i64 0, .slice none 0 0]).drew →
      (∀ S : Nat → Prop, (∀ x, w.heap.size ≤ x → S x) → CacheAt Try.prog 31 kdK kdL w1 w.heap.size S most []) ∧ Below w.heap.size w w1 := by
  subst hx; subst hn
  have hh := (MapKept.heap_alloc w (.cells #[.int .i64 (n : Int), .pointer none, .map none] 197)).1
  have h1 : (w.alloc (.cells #[.int .i64 (n : Int), .pointer none, .map none] 197)).cell? ⟨w.heap.size, 1, none⟩ = some (.pointer none) := by unfold World.cell?; rw [hh]; rfl
  have h2 : (w.alloc (.cells #[.int .i64 (n : Int), .pointer none, .map none] 197)).cell? ⟨w.heap.size, 2, none⟩ = some (.map none) := by unfold World.cell?; rw [hh]; rfl
  have h0 : (w.alloc (.cells #[.int .i64 (n : Int), .pointer none, .map none] 197)).cell? ⟨w.heap.size, 0, none⟩ = some (.int .i64 (n : Int)) := by unfold World.cell?; rw [hh]; rfl
  have hl : Live (w.alloc (.cells #[.int .i64 (n : Int), .pointer none, .map none] 197)) w.heap.size := ⟨_, _, hh⟩
  refine ⟨h1, h2, hl, fun w1 hw => ⟨fun S hS => ?_, ?_⟩⟩
  · exact (cache_emptied (S := fun x => w.heap.size ≤ x) (P := Try.prog) (kT := 31) (KK := kdK) (VK := kdL) h0 h1 h2 hl (Nat.le_refl _) hw).1.wider (fun x hx => hx.elim (hS x) (fun y => hS x (by simp at y; omega)))
  · have hT := (cache_emptied (S := fun x => w.heap.size ≤ x) (P := Try.prog) (kT := 31) (KK := kdK) (VK := kdL) h0 h1 h2 hl (Nat.le_refl _) hw).2
    exact ((Below.refl _ _).alloc (Nat.le_refl _) _).trans (hT.below (by simp) (fun x hx y => by omega))

theorem newKL_any {w : World} (m : Int) :
    Calls Try.prog 35 #[.int .i64 m] w fun ex w' => ex = .returned (.pointer (some ⟨w.heap.size, 0, none⟩)) ∧
      (∀ S : Nat → Prop, (∀ x, w.heap.size ≤ x → S x) → CacheAt Try.prog 31 kdK kdL w' w.heap.size S (clampN m) []) ∧ Below w.heap.size w w' := by
  rcases Int.lt_or_le m 0 with h0 | h0
  · have HK := new_facts w 0 0 rfl (most := clampN m) (by unfold clampN; omega)
    go_enter Try.func35, Try.ntmps35
    go_wp2_with fail
    refine (emptyKL_any w.heap.size _ HK.1 HK.2.1 HK.2.2.1).mono ?_
    rintro ex w1 ⟨rfl, hw1⟩
    have HE := Lib.hid (HK.2.2.2 w1 hw1)
    clear hw1
    go_wp2_with fail
    go_ret
    exact ⟨rfl, HE.out.1, HE.out.2⟩
  · rcases Int.lt_or_le 1048576 m with h1 | h1
    · have HK := new_facts w 1048576 1048576 rfl (most := clampN m) (by unfold clampN; omega)
      go_enter Try.func35, Try.ntmps35
      go_wp2_with fail
      refine (emptyKL_any w.heap.size _ HK.1 HK.2.1 HK.2.2.1).mono ?_
      rintro ex w1 ⟨rfl, hw1⟩
      have HE := Lib.hid (HK.2.2.2 w1 hw1)
      clear hw1
      go_wp2_with fail
      go_ret
      exact ⟨rfl, HE.out.1, HE.out.2⟩
    · have HK := new_facts w (clampN m) m (by unfold clampN; omega) rfl
      go_enter Try.func35, Try.ntmps35
      go_wp2_with fail
      refine (emptyKL_any w.heap.size _ HK.1 HK.2.1 HK.2.2.1).mono ?_
      rintro ex w1 ⟨rfl, hw1⟩
      have HE := Lib.hid (HK.2.2.2 w1 hw1)
      clear hw1
      go_wp2_with fail
      go_ret
      exact ⟨rfl, HE.out.1, HE.out.2⟩

end Go.Proofs.Yteboancapfgdeaa.KL
