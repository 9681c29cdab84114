/- Plain: what a dropping leaves in memory. No code walked. -/
import Derived.Test.YtgnffkahlniehaaGreatRtPutP
namespace Go.Proofs.YtgnffkahlniehaaGreat
open Go Go.RowKit Go.Proofs.Gs Go.Proofs.Tri Go.Proofs.Rt Go.Proofs.Tp

theorem drop_kid_facts {t k : Tree} {x : ByteArray} {xs : List ByteArray} (hf : Forest ltB t.kids) (hl : Lim t) (hk : kidAt ltB x t.kids = some k) (hg : (get (x :: xs) (body t)).isSome = true) :
    k.lv.length ≤ (x :: xs).length ∧ (get ((x :: xs).drop k.lv.length) (body k)).isSome = true ∧ (drp ltB k ((x :: xs).drop k.lv.length)).lv = k.lv ∧ Forest ltB (drp ltB k ((x :: xs).drop k.lv.length)).kids ∧ Lim (drp ltB k ((x :: xs).drop k.lv.length)) := by
  obtain ⟨A, B, ys, hks, hA, hlv, _, _⟩ := kidAt_some linB hf hk
  have hmem : k ∈ t.kids := by rw [hks]; simp
  have hok := hf.ok k hmem
  obtain ⟨l1, l2⟩ := hl.kid hmem
  rw [get_kid linB hf, hk] at hg
  simp only at hg
  obtain ⟨a, ha⟩ := Option.isSome_iff_exists.1 hg
  rw [ents_body] at ha
  obtain ⟨q, hq, hgq⟩ := get_pre_some ha
  have hd : (x :: xs).drop k.lv.length = q := by rw [hq]; simp
  rw [hd]
  have hgs : (get q (body k)).isSome = true := by rw [hgq]; rfl
  obtain ⟨d1, d2, d3⟩ := drp_spec linB q.length q k (Nat.le_refl _) hok.forest hgs
  refine ⟨by rw [hq, List.length_append]; omega, hgs, d1, d3, ⟨?_, fun e he => ?_⟩⟩
  · rw [d2]
    exact Nat.le_trans (List.length_filter_le _ _) l1.count
  · rw [d2] at he
    exact l1.long e (List.mem_filter.1 he).1

theorem drop_kid_some {t : Tree} {x : ByteArray} {xs : List ByteArray} (hf : Forest ltB t.kids) (hg : (get (x :: xs) (body t)).isSome = true) : ∃ k, kidAt ltB x t.kids = some k := by
  rw [get_kid linB hf] at hg
  cases hk : kidAt ltB x t.kids with
  | none => rw [hk] at hg; simp at hg
  | some k => exact ⟨k, rfl⟩

theorem since_weak {F : Nat → Prop} {a b c : World} (h : a.heap.size ≤ b.heap.size) : ∀ x, Since F b c x → Since F a c x := fun _ h' => h'.elim .inl (fun h'' => .inr ⟨by omega, h''.2⟩)

/-- The last step where an edge goes: the row of the call's own has lost it, and the node is made. -/
theorem del_fin {F : Nat → Prop} {w w1 w3 w4 V V5 : World} {p g n cap q B : Nat} {t : Tree} {sv mv kv kv' : Value} {bs : List Nat} {E ty : TypeId} (hF : ∀ x, F x → x < w.heap.size) (hb1 : Below w.heap.size w w1) (O : Rt.Open F w1 p t sv mv kv bs) (hB : w.heap.size ≤ B)
    (hown : w1.ownsRow B E 1 (.slice (some ⟨g, 0, none⟩) n cap) bs.length (bs.map ptrV)) (hb3 : Below w1.heap.size w1 w3) (hq : q < bs.length) (hdel : w4.ownsRow B E 1 kv' (bs.length - 1) ((bs.map ptrV).take q ++ (bs.map ptrV).drop (q + 1))) (gr4 : w3.grownBy w4 (some g)) (hV : Below w4.heap.size w4 V)
    (h5 : V.alloc (.cells #[sv, mv, kv'] ty) = V5) : NodeAt (Since F w V5) V5 V.heap.size (.node t.lv t.val (t.kids.take q ++ t.kids.drop (q + 1))) ∧ Below w.heap.size w V5 := by
  obtain ⟨hg0, hg1⟩ := hown.lt g rfl
  have hw1 := hb1.size
  have hw3 := hb3.size
  have hw4 := gr4.size
  have hwV := hV.size
  have hbg : Below g w3 w4 := grown_below gr4 (by omega) (fun x e => by injection e with e; omega)
  have hng : ∀ x, Since F w1 w3 x → x ≠ g := fun x h e => by
    subst e
    rcases h with h | h
    · have := hF _ h; omega
    · omega
  have hsm : Same (Since F w1 w3) w3 w4 := fun x hx hS => gr4.block x hx (fun e => hng x hS (by injection e))
  have O3 := O.below hb3
  have O4 : Rt.Open (Since F w1 w3) w4 p t sv mv kv bs := (O3.mono since_old).same hsm
  have O5 := (O4.below hV).mono (fun x h => (h.elim .inl (fun h => .inr ⟨by omega, by omega⟩) : Since F w V x))
  have o5 := RowF.of_owns (F := Since F w V) (owns_below hdel hV) (fun x a b => .inr ⟨by omega, b⟩)
  rw [← List.map_take, ← List.map_drop, ← List.map_append] at o5
  have el : (bs.take q ++ bs.drop (q + 1)).length = bs.length - 1 := by simp; omega
  have hbw : Below w.heap.size w V := ((hb1.trans (hb3.mono hw1)).trans (hbg.mono (by omega))).trans (hV.mono (by omega))
  have s5 : V5.heap.size = V.heap.size + 1 := by rw [← h5]; simp
  have hkl := O5.hl
  obtain ⟨h1, h2, h3⟩ := node_new (F := Since F w V5) (t := Tr.node t.lv t.val (t.kids.take q ++ t.kids.drop (q + 1))) (bs := bs.take q ++ bs.drop (q + 1)) h5 (.inr ⟨by omega, by omega⟩) (RowF.mono O5.hsf (since_more (by omega))) (O5.hm.mono (since_more (by omega))) (by rw [el]; exact o5.mono (since_more (by omega))) (by rw [el]; simp [Tr.kids_node]; omega) (fun i b k2 e e' => by
    simp only [Tr.kids_node] at e'
    have l1 : (bs.take q).length = q := by rw [List.length_take]; omega
    have l2 : (t.kids.take q).length = q := by rw [List.length_take]; omega
    by_cases hi : i < q
    · rw [List.getElem?_append_left (by omega), List.getElem?_take, if_pos hi] at e e'
      exact NodeAt.mono (since_more (by omega)) (O5.hn i b k2 e e')
    · rw [List.getElem?_append_right (by omega), l1, List.getElem?_drop] at e
      rw [List.getElem?_append_right (by omega), l2, List.getElem?_drop] at e'
      exact NodeAt.mono (since_more (by omega)) (O5.hn _ b k2 e e'))
  exact ⟨h1, hbw.trans (h2.mono (by omega))⟩

/-- A node with another edge's behind its own. -/
theorem merge_node {F : Nat → Prop} {w : World} {ob : Nat} {only : Tree} {sv mv kv vv : Value} {bs2 : List Nat} {ty E : TypeId} {L : List ByteArray} {B : Nat} (O : Rt.Open F w ob only sv mv kv bs2) {V V5 : World} (hb : Below w.heap.size w V) (hrow : V.ownsRow B E 1 vv L.length (L.map Value.string)) (hB : w.heap.size ≤ B)
    (h5 : V.alloc (.cells #[vv, mv, kv] ty) = V5) : NodeAt (Since F w V5) V5 V.heap.size (.node L only.val only.kids) ∧ Below w.heap.size w V5 := by
  have O5 := (O.below hb).mono (F' := Since F w V5) since_old
  have s5 : V5.heap.size = V.heap.size + 1 := by rw [← h5]; simp
  have hs := hb.size
  obtain ⟨h1, h2, h3⟩ := node_new (F := Since F w V5) (t := Tr.node L only.val only.kids) (bs := bs2) h5 (.inr ⟨hs, by omega⟩) (RowF.of_owns hrow (fun g a b => .inr ⟨by omega, by omega⟩)) O5.hm O5.hkf O5.hl O5.hn
  exact ⟨h1, hb.trans (h2.mono hs)⟩
end Go.Proofs.YtgnffkahlniehaaGreat
