/- Proved here: New, Nodes, Len. -/
import Derived.Test.YtgnffkahlniehaaGreatRtCount
import Derived.Test.YtgnffkahlniehaaGreatRtOwn
namespace Go.Proofs.YtgnffkahlniehaaGreat
open Go Go.RowKit Go.Proofs.Gs Go.Proofs.Tri Go.Proofs.Rt Go.Proofs.Tp

/-- A trie in memory: its own block is none of the nodes'. -/
structure TrieAt (F : Nat → Prop) (w : World) (tb : Nat) (t : Tree) : Prop where
  root : ∃ p, w.cell? ⟨tb, 0, none⟩ = some (.pointer (some ⟨p, 0, none⟩)) ∧ NodeAt F w p t
  fit : w.frozen? ⟨tb, 0, none⟩ = false
  out : ¬ F tb
  old : ∀ x, F x → x < w.heap.size
  forest : Forest ltB t.kids
  lim : Lim t

theorem TrieAt.lt {F : Nat → Prop} {w : World} {tb : Nat} {t : Tree} (h : TrieAt F w tb t) : tb < w.heap.size := by
  obtain ⟨p, hp, _⟩ := h.root
  exact World.block_lt_of_cell? w _ hp

theorem TrieAt.below {F : Nat → Prop} {w w' : World} {tb : Nat} {t : Tree} (h : TrieAt F w tb t) (hb : Below w.heap.size w w') : TrieAt F w' tb t := by
  obtain ⟨p, hp, hn⟩ := h.root
  refine ⟨⟨p, cell_below hb hp, NodeAt.keep hb hn⟩, ?_, h.out, fun x hx => Nat.lt_of_lt_of_le (h.old x hx) hb.size, h.forest, h.lim⟩
  have := h.fit
  unfold World.frozen? at this ⊢
  rw [hb.block tb h.lt]
  exact this

theorem nodes_small {t : Tree} (h : Forest ltB t.kids) (hl : Lim t) : nodes t ≤ 100000000 ∧ (body t).length ≤ 100000000 := by
  have h1 := (nodes_root h).2.1
  have h2 := hl.count
  omega

set_option maxHeartbeats 1000000 in
set_option maxRecDepth 100000 in
theorem nodes_any {F : Nat → Prop} {w : World} {tb : Nat} {t : Tree} (h : TrieAt F w tb t) :
    Calls Tryz.prog 22 #[.pointer (some ⟨tb, 0, none⟩)] w fun e w' => e = .returned (.int .i64 (nodes t)) ∧ w' = w := by
  obtain ⟨p, hp, hn⟩ := h.root
  obtain ⟨s1, s2⟩ := nodes_small h.forest h.lim
  have HC := Lib.hid (count_any t F w p hn s1 s2)
  clear h hn
  go_enter Tryz.func22, Tryz.ntmps22
  go_wp2_with fail
  refine HC.out.mono ?_
  rintro e w' ⟨rfl, rfl⟩
  go_wp2_with fail
  go_ret
  exact ⟨rfl, rfl⟩

set_option maxHeartbeats 1000000 in
set_option maxRecDepth 100000 in
theorem len_any {F : Nat → Prop} {w : World} {tb : Nat} {t : Tree} (h : TrieAt F w tb t) :
    Calls Tryz.prog 41 #[.pointer (some ⟨tb, 0, none⟩)] w fun e w' => e = .returned (.int .i64 ((body t).length : Nat)) ∧ w' = w := by
  obtain ⟨p, hp, hn⟩ := h.root
  obtain ⟨s1, s2⟩ := nodes_small h.forest h.lim
  have HC := Lib.hid (count_any t F w p hn s1 s2)
  clear h hn
  go_enter Tryz.func41, Tryz.ntmps41
  go_wp2_with fail
  refine HC.out.mono ?_
  rintro e w' ⟨rfl, rfl⟩
  go_wp2_with fail
  go_ret
  exact ⟨rfl, rfl⟩

theorem new_node {w W : World} {t1 t2 : TypeId} (h : (w.alloc (.cells #[.slice none 0 0, .pointer none, .slice none 0 0] t1)).alloc (.cells #[.pointer (some ⟨w.heap.size, 0, none⟩)] t2) = W) :
    TrieAt (fun x => x = w.heap.size) W (w.heap.size + 1) (.node [] none []) ∧ Below w.heap.size w W := by
  have g0 := (MapKept.heap_alloc w (.cells #[.slice none 0 0, .pointer none, .slice none 0 0] t1)).1
  obtain ⟨A, hA⟩ : ∃ A, w.alloc (.cells #[.slice none 0 0, .pointer none, .slice none 0 0] t1) = A := ⟨_, rfl⟩
  have hAs : A.heap.size = w.heap.size + 1 := by rw [← hA]; simp
  rw [hA] at h g0
  have g1 := (MapKept.heap_alloc A (.cells #[.pointer (some ⟨w.heap.size, 0, none⟩)] t2)).1
  have g0' := (Below.heap_alloc A (.cells #[.pointer (some ⟨w.heap.size, 0, none⟩)] t2) w.heap.size (by omega)).trans g0
  rw [h, hAs] at g1
  rw [h] at g0'
  have hb : Below w.heap.size w W := by
    rw [← h, ← hA]
    exact ((Below.refl _ w).alloc (Nat.le_refl _) _).alloc (by simp) _
  have hs : W.heap.size = w.heap.size + 2 := by rw [← h]; simp [hAs]
  refine ⟨⟨⟨w.heap.size, by unfold World.cell?; simp only; rw [g1]; rfl, Rt.Open.shut (bs := []) (sv := .slice none 0 0) (mv := .pointer none) (kv := .slice none 0 0) ⟨rfl, by unfold World.cell?; simp only; rw [g0']; rfl, rowF_nil _ _ _, by unfold World.cell?; simp only; rw [g0']; rfl, rfl, by unfold World.cell?; simp only; rw [g0']; rfl, rowF_nil _ _ _, rfl, fun i b k h _ => by simp at h⟩⟩, frozen_of_row W _ 0 _ _ g1, by omega, fun x hx => by omega, Forest.nil, ⟨by simp [body, ownE, Tr.val_node, Tr.kids_node, entsL_nil], fun e he => by simp [body, ownE, Tr.val_node, Tr.kids_node, entsL_nil] at he⟩⟩, hb⟩

set_option maxHeartbeats 1000000 in
set_option maxRecDepth 100000 in
theorem new_any (w : World) :
    Calls Tryz.prog 5 #[] w fun e w' => e = .returned (.pointer (some ⟨w.heap.size + 1, 0, none⟩)) ∧ TrieAt (fun x => x = w.heap.size) w' (w.heap.size + 1) (.node [] none []) ∧ Below w.heap.size w w' := by
  go_enter Tryz.func5, Tryz.ntmps5
  go_wp2_with fail
  go_ret
  exact ⟨by simp, new_node rfl⟩
end Go.Proofs.YtgnffkahlniehaaGreat
