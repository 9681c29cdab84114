/- Proved here: own, a message whose payload is its own. -/
import Derived.Test.YtgnffkahlniehaaGreatRtPutP
import Derived.Test.YtgnffkahlniehaaGreatGsAll
import Derived.Deep.DeepCutAuto
namespace Go.Proofs.YtgnffkahlniehaaGreat
open Go Go.RowKit Go.Proofs.Gs Go.Proofs.Tri Go.Proofs.Rt Go.Proofs.Tp

/-- A message as a value. -/
def MsgVal (F : Nat → Prop) (w : World) (v : Value) (m : MsgV) : Prop := ∃ pv, v = .agg #[.string m.topic, pv, .int .i64 m.qos, .bool m.ret] ∧ RowF F w 1 pv m.pay.length (payCells m.pay)

theorem pay_one (l : List Int) : ∀ u ∈ payCells l, u.oneCell' = true := by
  intro u hu
  obtain ⟨b, _, rfl⟩ := List.mem_map.1 hu
  rfl

theorem two_rows {w W : World} {c1 c2 : Array Value} {t : TypeId} (h : (w.alloc (.cells c1 t)).alloc (.cells c2 t) = W) : Below w.heap.size w W ∧ W.heap.size = w.heap.size + 2 ∧ W.heap[w.heap.size]? = some (.cells c1 t (0, 0)) ∧ W.heap[w.heap.size + 1]? = some (.cells c2 t (0, 0)) := by
  subst h
  have g0 := (MapKept.heap_alloc w (.cells c1 t)).1
  have g1 := (MapKept.heap_alloc (w.alloc (.cells c1 t)) (.cells c2 t)).1
  have g0' := (Below.heap_alloc (w.alloc (.cells c1 t)) (.cells c2 t) w.heap.size (by simp)).trans g0
  rw [show (w.alloc (.cells c1 t)).heap.size = w.heap.size + 1 by simp] at g1
  exact ⟨((Below.refl _ w).alloc (Nat.le_refl _) _).alloc (by simp) _, by simp, g0', g1⟩

/-- Four cells of a block set anew. -/
theorem set4 {w W : World} {g : Nat} {a b c d a' b' c' d' : Value} {t : TypeId} (hg : w.heap[g]? = some (.cells #[a, b, c, d] t (0, 0))) (h : (((w.setCell ⟨g, 0, none⟩ a').setCell ⟨g, 1, none⟩ b').setCell ⟨g, 2, none⟩ c').setCell ⟨g, 3, none⟩ d' = W) :
    W.heap[g]? = some (.cells #[a', b', c', d'] t (0, 0)) ∧ (∀ B, B ≤ g → Below B w W) ∧ W.heap.size = w.heap.size := by
  subst h
  have e1 := heap_setCell_same w g 0 _ t a' hg
  have e2 := heap_setCell_same _ g 1 _ t b' e1
  have e3 := heap_setCell_same _ g 2 _ t c' e2
  have e4 := heap_setCell_same _ g 3 _ t d' e3
  refine ⟨e4, fun B hB => ((((Below.refl B w).setCell (p := ⟨g, 0, none⟩) hB _).setCell (p := ⟨g, 1, none⟩) hB _).setCell (p := ⟨g, 2, none⟩) hB _).setCell (p := ⟨g, 3, none⟩) hB _, by simp [World.setCell]⟩

def Fresh (w w' : World) : Nat → Prop := fun x => w.heap.size ≤ x ∧ x < w'.heap.size

set_option maxHeartbeats 2000000 in
set_option maxRecDepth 100000 in
theorem own_any {F : Nat → Prop} {w : World} {v : Value} {m : MsgV} (h : MsgVal F w v m) (hn : m.pay.length ≤ 1000000000) :
    Calls Tryz.prog 26 #[v] w fun e w' => ∃ v', e = .returned v' ∧ MsgVal (Fresh w w') w' v' m ∧ Below w.heap.size w w' := by
  obtain ⟨pv, rfl, hp⟩ := h
  obtain ⟨⟨hp0, a, cap, rfl, hp1, hp2, hp3⟩, hpF⟩ := hp
  obtain ⟨n, hnn⟩ : ∃ n, m.pay.length = n := ⟨_, rfl⟩
  go_enter Tryz.func26, Tryz.ntmps26
  go_wp2_with fail
  have hsb : RowAt w 1 (.slice a n cap) n (payCells m.pay) := by rw [← hnn]; exact ⟨hp0, a, cap, rfl, hp1, hp2, hp3⟩
  have HSB := Lib.hid hsb
  have HNN := Lib.hid hnn
  have two := two_rows (w := w) (c1 := #[.string m.topic, .slice a n cap, .int .i64 m.qos, .bool m.ret]) (c2 := #[.string ⟨#[]⟩, .slice none 0 0, .int .i64 0, .bool false]) (t := 36) rfl
  rw [hnn] at hn hp1 ⊢
  clear hsb hp0 hpF hp3
  generalize (w.alloc (.cells #[.string m.topic, .slice a n cap, .int .i64 m.qos, .bool m.ret] 36)).alloc (.cells #[.string ⟨#[]⟩, .slice none 0 0, .int .i64 0, .bool false] 36) = W0 at two ⊢
  obtain ⟨hb0, hs0, g0, g1⟩ := two
  refine (cloneB_any (HSB.out.below hb0) (by omega) (pay_one _)).mono ?_
  rintro e w1 ⟨v1, rfl, hown, hb1⟩
  obtain ⟨a1, c1, rfl⟩ := owns_slice hown
  have h0 := (hb1.block w.heap.size (by omega)).trans g0
  have h1 := (hb1.block (w.heap.size + 1) (by omega)).trans g1
  have HOW := Lib.hid hown
  have HB0 := Lib.hid hb0
  have HB1 := Lib.hid hb1
  have HS0 := Lib.hid hs0
  have r1 : w1.cell? ⟨w.heap.size, 1, none⟩ = some (.slice a n cap) := by unfold World.cell?; simp only; rw [h0]; rfl
  have f0 := fun j => frozen_of_row w1 w.heap.size j _ _ h0
  have f1 := fun j => frozen_of_row w1 (w.heap.size + 1) j _ _ h1
  clear hown hb0 hb1 g0 g1
  go_upto_region 2 with fail
  obtain ⟨w2, hw2⟩ : ∃ w2, w1.setCell ⟨w.heap.size, 1, none⟩ (.slice a1 n c1) = w2 := ⟨_, rfl⟩
  have h0' : w2.heap[w.heap.size]? = some (.cells #[.string m.topic, .slice a1 n c1, .int .i64 m.qos, .bool m.ret] 36 (0, 0)) := by rw [← hw2]; exact heap_setCell_same _ _ _ _ _ _ h0
  have h1' : w2.heap[w.heap.size + 1]? = some (.cells #[.string ⟨#[]⟩, .slice none 0 0, .int .i64 0, .bool false] 36 (0, 0)) := by rw [← hw2]; exact (heap_setCell_other _ _ _ _ (by simp)).trans h1
  rw [hw2]
  have HW2 := Lib.hid hw2
  clear hw2 h0 h1 r1 f0 f1
  have m0 : w2.cell? ⟨w.heap.size, 0, none⟩ = some (.string m.topic) := by unfold World.cell?; simp only; rw [h0']; rfl
  have m1 : w2.cell? ⟨w.heap.size, 1, none⟩ = some (.slice a1 n c1) := by unfold World.cell?; simp only; rw [h0']; rfl
  have m2 : w2.cell? ⟨w.heap.size, 2, none⟩ = some (.int .i64 m.qos) := by unfold World.cell?; simp only; rw [h0']; rfl
  have m3 : w2.cell? ⟨w.heap.size, 3, none⟩ = some (.bool m.ret) := by unfold World.cell?; simp only; rw [h0']; rfl
  have s0 : w2.cell? ⟨w.heap.size + 1, 0, none⟩ = some (.string ⟨#[]⟩) := by unfold World.cell?; simp only; rw [h1']; rfl
  have s1 : w2.cell? ⟨w.heap.size + 1, 1, none⟩ = some (.slice none 0 0) := by unfold World.cell?; simp only; rw [h1']; rfl
  have s2 : w2.cell? ⟨w.heap.size + 1, 2, none⟩ = some (.int .i64 0) := by unfold World.cell?; simp only; rw [h1']; rfl
  have s3 : w2.cell? ⟨w.heap.size + 1, 3, none⟩ = some (.bool false) := by unfold World.cell?; simp only; rw [h1']; rfl
  have f1 := fun j => frozen_of_row w2 (w.heap.size + 1) j _ _ h1'
  have H1 := Lib.hid h1'
  clear h0' h1'
  go_wp2_with fail
  obtain ⟨W, hW⟩ : ∃ W, (((w2.setCell ⟨w.heap.size + 1, 0, none⟩ (.string m.topic)).setCell ⟨w.heap.size + 1, 1, none⟩ (.slice a1 n c1)).setCell ⟨w.heap.size + 1, 2, none⟩ (.int .i64 m.qos)).setCell ⟨w.heap.size + 1, 3, none⟩ (.bool m.ret) = W := ⟨_, rfl⟩
  obtain ⟨g4, b4, s4⟩ := set4 H1.out hW
  have hrow : W.ownsRow W0.heap.size 5 1 (.slice a1 n c1) n (payCells m.pay) := by
    have hs := HS0.out
    have h2 : w2.ownsRow W0.heap.size 5 1 (.slice a1 n c1) n (payCells m.pay) := by rw [← HW2.out]; exact ownsRow_setCell_below HOW.out (by show w.heap.size < W0.heap.size; omega) _
    have hlt : w.heap.size + 1 < W0.heap.size := by omega
    rw [← hW]
    exact ownsRow_setCell_below (ownsRow_setCell_below (ownsRow_setCell_below (ownsRow_setCell_below h2 (a := ⟨w.heap.size + 1, 0, none⟩) hlt _) (a := ⟨w.heap.size + 1, 1, none⟩) hlt _) (a := ⟨w.heap.size + 1, 2, none⟩) hlt _) (a := ⟨w.heap.size + 1, 3, none⟩) hlt _
  rw [hW]
  clear hW
  have z0 : W.cell? ⟨w.heap.size + 1, 0, none⟩ = some (.string m.topic) := by unfold World.cell?; simp only; rw [g4]; rfl
  have z1 : W.cell? ⟨w.heap.size + 1, 1, none⟩ = some (.slice a1 n c1) := by unfold World.cell?; simp only; rw [g4]; rfl
  have z2 : W.cell? ⟨w.heap.size + 1, 2, none⟩ = some (.int .i64 m.qos) := by unfold World.cell?; simp only; rw [g4]; rfl
  have z3 : W.cell? ⟨w.heap.size + 1, 3, none⟩ = some (.bool m.ret) := by unfold World.cell?; simp only; rw [g4]; rfl
  have hbw : Below w.heap.size w W := by
    have e0 := HB0.out
    have e1 := HB1.out
    have hs := HS0.out
    have e2 : Below w.heap.size w1 w2 := by rw [← HW2.out]; exact (Below.refl _ _).setCell (p := ⟨w.heap.size, 1, none⟩) (Nat.le_refl _) _
    exact ((e0.trans (e1.mono (by omega))).trans e2).trans (b4 _ (by omega))
  clear m0 m1 m2 m3 s0 s1 s2 s3
  refine bodyPost_ret (v := .agg #[.string m.topic, .slice a1 n c1, .int .i64 m.qos, .bool m.ret]) (by simp [results, Tryz.results26, go_sem, z0, z1, z2, z3]) rfl ?_
  refine ⟨_, rfl, ⟨.slice a1 n c1, rfl, ?_⟩, hbw⟩
  rw [HNN.out]
  exact RowF.of_owns hrow (fun g h1 h2 => ⟨by have := HS0.out; omega, h2⟩)
end Go.Proofs.YtgnffkahlniehaaGreat
