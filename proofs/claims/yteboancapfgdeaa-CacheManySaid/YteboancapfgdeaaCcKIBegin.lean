/- Proved here: begin, a new pair; lot, the next number. -/
import Derived.Test.YteboancapfgdeaaCcKIDoes
import Derived.Laws.BitsLemmas
namespace Go.Proofs.Yteboancapfgdeaa.KI
open Go.RowKit Go.Proofs.Cc

theorem codes_new (w : World) (t : TypeId) {K : Type} [DecidableEq K] (eT sz : Nat) (KK : Kd K) (zero : K) (S : Nat → Prop) (hS : S w.heap.size) : CodesAt eT sz KK zero (w.alloc (.cells #[.slice none 0 0] t)) w.heap.size S [] := by
  have hh := (MapKept.heap_alloc w (.cells #[.slice none 0 0] t)).1
  exact ⟨⟨.slice none 0 0, by unfold World.cell?; simp only; rw [hh]; rfl, World.ownsRow_nil _ _ _ _, fun g e => by cases e⟩, ⟨_, _, hh⟩, hS, .inl rfl⟩

set_option maxRecDepth 100000 in
set_option maxHeartbeats 2000000 in
theorem beginKI_any {w : World} (m : Int) :
    Calls Try.prog 24 #[.int .i64 m] w fun ex w' => ∃ c mp kp vp, ex = .returned (.agg #[.pointer (some ⟨c, 0, none⟩), .pointer (some ⟨mp, 0, none⟩), .pointer (some ⟨kp, 0, none⟩), .pointer (some ⟨vp, 0, none⟩)]) ∧
      (∀ (o : Nat → Nat) (i : Nat), ∃ o' : Nat → Nat, DoesAt o' i w' c mp kp vp (clampN m) [] [] [] ∧ ∀ x, x < w.heap.size → o' x = o x) ∧ Below w.heap.size w w' := by
  go_enter Try.func24, Try.ntmps24
  go_wp2_with fail
  have hbw : Below w.heap.size w (w.alloc (.cells #[.pointer none, .pointer none, .pointer none, .pointer none] 66)) := (Below.refl _ w).alloc (Nat.le_refl _) _
  have hrw := (MapKept.heap_alloc w (.cells #[.pointer none, .pointer none, .pointer none, .pointer none] 66)).1
  have hs0 : (w.alloc (.cells #[.pointer none, .pointer none, .pointer none, .pointer none] 66)).heap.size = w.heap.size + 1 := by simp
  generalize w.alloc (.cells #[.pointer none, .pointer none, .pointer none, .pointer none] 66) = w0 at hbw hrw hs0 ⊢
  refine (newKI_any (w := w0) m).mono ?_
  rintro ex w1 ⟨rfl, hC, hb1⟩
  have HC := Lib.hid hC
  have HB1 := Lib.hid hb1
  clear hC hb1
  go_wp2_with fail
  refine (refNew_any (w := w1) m).mono ?_
  rintro ex w2 ⟨rfl, hM, hb2, hs2⟩
  have HM := Lib.hid hM
  have HB2 := Lib.hid hb2
  have hres : w2.heap[w.heap.size]? = some (.cells #[.pointer none, .pointer none, .pointer none, .pointer none] 66 (0, 0)) := by
    rw [hb2.block _ (by have := HB1.out.size; omega), HB1.out.block _ (by omega)]
    exact hrw
  have hlt2 : w.heap.size < w2.heap.size := by have := HB1.out.size; have := HB2.out.size; omega
  obtain ⟨A, hA⟩ : ∃ A, (w2.alloc (.cells #[.slice none 0 0] 125)).alloc (.cells #[.slice none 0 0] 100) = A := ⟨_, rfl⟩
  have hresA : A.heap[w.heap.size]? = some (.cells #[.pointer none, .pointer none, .pointer none, .pointer none] 66 (0, 0)) := by
    rw [← hA, Below.heap_alloc _ _ _ (by simp; omega), Below.heap_alloc _ _ _ hlt2]
    exact hres
  have g0 : A.cell? ⟨w.heap.size, 0, none⟩ = some (.pointer none) := by unfold World.cell?; simp only; rw [hresA]; rfl
  have g1 : A.cell? ⟨w.heap.size, 1, none⟩ = some (.pointer none) := by unfold World.cell?; simp only; rw [hresA]; rfl
  have g2 : A.cell? ⟨w.heap.size, 2, none⟩ = some (.pointer none) := by unfold World.cell?; simp only; rw [hresA]; rfl
  have g3 : A.cell? ⟨w.heap.size, 3, none⟩ = some (.pointer none) := by unfold World.cell?; simp only; rw [hresA]; rfl
  have f0 : ∀ o, A.frozen? ⟨w.heap.size, o, none⟩ = false := fun o => Live.frozen ⟨_, _, hresA⟩ o none
  have f00 := f0 0
  have f01 := f0 1
  have f02 := f0 2
  have f03 := f0 3
  have HRA := Lib.hid hresA
  clear hM hb2 hrw f0 hres hresA
  go_wp2_with fail
  try rw [hA]
  clear g0 g1 g2 g3 f00 f01 f02 f03
  have s0 := heap_setCell_same A w.heap.size 0 _ _ (.pointer (some ⟨w.heap.size + 1, 0, none⟩)) HRA.out
  have s1 := heap_setCell_same _ w.heap.size 1 _ _ (.pointer (some ⟨w1.heap.size, 0, none⟩)) s0
  have s2 := heap_setCell_same _ w.heap.size 2 _ _ (.pointer (some ⟨w1.heap.size + 1, 0, none⟩)) s1
  have s3 := heap_setCell_same _ w.heap.size 3 _ _ (.pointer (some ⟨w1.heap.size + 1 + 1, 0, none⟩)) s2
  have hT : Turn (fun x => x = w.heap.size) A ((((A.setCell ⟨w.heap.size, 0, none⟩ (.pointer (some ⟨w.heap.size + 1, 0, none⟩))).setCell ⟨w.heap.size, 1, none⟩ (.pointer (some ⟨w1.heap.size, 0, none⟩))).setCell ⟨w.heap.size, 2, none⟩ (.pointer (some ⟨w1.heap.size + 1, 0, none⟩))).setCell ⟨w.heap.size, 3, none⟩ (.pointer (some ⟨w1.heap.size + 1 + 1, 0, none⟩))) :=
    ((((Turn.refl (fun x => x = w.heap.size) A).setCell (p := ⟨w.heap.size, 0, none⟩) (.inl rfl) _).setCell (p := ⟨w.heap.size, 1, none⟩) (.inl rfl) _).setCell (p := ⟨w.heap.size, 2, none⟩) (.inl rfl) _).setCell (p := ⟨w.heap.size, 3, none⟩) (.inl rfl) _
  generalize (((A.setCell ⟨w.heap.size, 0, none⟩ (.pointer (some ⟨w.heap.size + 1, 0, none⟩))).setCell ⟨w.heap.size, 1, none⟩ (.pointer (some ⟨w1.heap.size, 0, none⟩))).setCell ⟨w.heap.size, 2, none⟩ (.pointer (some ⟨w1.heap.size + 1, 0, none⟩))).setCell ⟨w.heap.size, 3, none⟩ (.pointer (some ⟨w1.heap.size + 1 + 1, 0, none⟩)) = B at s3 hT ⊢
  have hinf : (Try.prog.info? 66).map (·.size) = some 4 := by kernel_rfl
  refine bodyPost_ret (results_cell_row rfl _ _ w.heap.size _ _ _ _ rfl s3 Try.underlying66 rfl hinf) rfl ?_
  have h2A : Below w2.heap.size w2 A := by rw [← hA]; exact ((Below.refl _ w2).alloc (Nat.le_refl _) _).alloc (by simp) _
  have h1A : Below w1.heap.size w1 A := HB2.out.trans (h2A.mono HB2.out.size)
  have hAs : A.heap.size = w2.heap.size + 2 := by rw [← hA]; simp
  have hz1 := HB1.out.size
  refine ⟨w.heap.size + 1, w1.heap.size, w1.heap.size + 1, w1.heap.size + 1 + 1, rfl, fun o i => ?_, ?_⟩
  · refine ⟨fun x => if x < w.heap.size then o x else if x < w0.heap.size then 0 else if x < w1.heap.size then i + 1 else if x = w1.heap.size then i + 2 else if x = w1.heap.size + 1 then i + 3 else i + 4, ⟨⟨?_, ?_, ?_, ?_⟩, by simp, by simp, Nat.zero_le _⟩, fun x hx => by simp only; rw [if_pos hx]⟩
    · have c1 := CacheAt.tight (HC.out (fun x => w0.heap.size ≤ x) (fun _ h => h))
      rw [hs0] at c1
      refine ((c1.frame (Below.toSame h1A)).frame (hT.same (fun x h h' => by omega))).wider (fun x hx => ?_)
      rw [if_neg (by omega), if_neg (by omega), if_pos hx.2]
    · have c2 := HM.out (fun x => x = w1.heap.size) rfl
      refine ((c2.frame (Below.toSame h2A)).frame (hT.same (fun x h h' => by omega))).wider (fun x hx => ?_)
      rw [if_neg (by omega), if_neg (by omega), if_neg (by omega), if_pos hx]
    · have c3 := codes_new w2 125 31 2 kdK zeroK (fun x => x = w2.heap.size) rfl
      have hb3 : Below (w2.alloc (.cells #[.slice none 0 0] 125)).heap.size (w2.alloc (.cells #[.slice none 0 0] 125)) A := by rw [← hA]; exact (Below.refl _ _).alloc (Nat.le_refl _) _
      have c4 := ((c3.frame (Below.toSame hb3)).frame (hT.same (fun x h h' => by omega)))
      rw [hs2] at c4
      refine c4.wider (fun x hx => ?_)
      rw [if_neg (by omega), if_neg (by omega), if_neg (by omega), if_neg (by omega), if_pos hx]
    · have c3 := codes_new (w2.alloc (.cells #[.slice none 0 0] 125)) 100 3 1 kdI zeroI (fun x => x = (w2.alloc (.cells #[.slice none 0 0] 125)).heap.size) rfl
      rw [hA] at c3
      have e : (w2.alloc (.cells #[.slice none 0 0] 125)).heap.size = w1.heap.size + 1 + 1 := by simp [hs2]
      rw [e] at c3
      refine (c3.frame (hT.same (fun x h h' => by omega))).wider (fun x hx => ?_)
      rw [if_neg (by omega), if_neg (by omega), if_neg (by omega), if_neg (by omega), if_neg (by omega)]
  · exact ((hbw.trans (HB1.out.mono (by omega))).trans (h1A.mono (by omega))).trans (hT.below (by omega) (fun x hx h => by omega))

end Go.Proofs.Yteboancapfgdeaa.KI
