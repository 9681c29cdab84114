/- Plain: what a split edge and a node made anew hold in memory. No code walked. -/
import Derived.Test.YtgnffkahlniehaaGreatRtPut
import Derived.Laws.OwnMore
namespace Go.Proofs.YtgnffkahlniehaaGreat
open Go Go.RowKit Go.Proofs.Gs Go.Proofs.Tri Go.Proofs.Rt Go.Proofs.Tp

theorem cut_good {t k : Tree} {x : ByteArray} (hf : Forest ltB t.kids) (hl : Lim t) (hk : kidAt ltB x t.kids = some k) (c : Nat) : Forest ltB (cutAt k c).kids ∧ Lim (cutAt k c) := by
  obtain ⟨A, B, xs, hks, hA, hlv, _, _⟩ := kidAt_some linB hf hk
  have hmem : k ∈ t.kids := by rw [hks]; simp
  have hok := hf.ok k hmem
  obtain ⟨l1, l2⟩ := hl.kid hmem
  by_cases hlt : c < k.lv.length
  · have hcut : cutAt k c = .node (k.lv.take c) none [.node (k.lv.drop c) k.val k.kids] := by unfold cutAt; rw [if_pos hlt]
    have hb : body (cutAt k c) = pre (k.lv.drop c) (body k) := by
      rw [hcut]; simp only [body, ownE, Tr.val_node, Tr.kids_node, List.nil_append, entsL_cons, entsL_nil, List.append_nil]
      rw [ents_body]; rfl
    refine ⟨?_, ⟨by rw [hb, pre_length]; exact l1.count, fun e he => ?_⟩⟩
    · rw [hcut]
      refine Forest.one ?_ (Ok.of hok.full hok.forest)
      simp only [Tr.lv_node]; intro e; have := congrArg List.length e; rw [List.length_drop] at this; simp at this; omega
    · rw [hb] at he
      obtain ⟨e', he', rfl⟩ := List.mem_map.1 he
      have := l2 (k.lv ++ e'.1, e'.2) (by rw [ents_body]; exact List.mem_map.2 ⟨e', he', rfl⟩)
      simp only [List.length_append, List.length_drop] at this ⊢
      omega
  · have hcut : cutAt k c = k := by unfold cutAt; rw [if_neg hlt]
    rw [hcut]
    exact ⟨hok.forest, l1⟩

theorem strsF_open {F : Nat → Prop} {w : World} {b off m cap : Nat} {L : List ByteArray} (h : StrsF F w (.slice (some ⟨b, off, none⟩) m cap) L) : L.length = m ∧ m ≤ cap ∧ cap ≤ maxLen ∧ F b ∧ (m = 0 ∨ (b < w.heap.size ∧ ∀ j u, (L.map Value.string)[j]? = some u → w.cell? ⟨b, off + j, none⟩ = some u)) := by
  obtain ⟨⟨h0, a, c, e, h1, h2, h3⟩, hF⟩ := h
  injection e with e1 e2 e3
  subst e2; subst e3
  refine ⟨rfl, h1, h2, hF b rfl, ?_⟩
  rcases h3 with h3 | ⟨b', off', e4, h4, h5⟩
  · exact .inl h3
  · rw [← e1] at e4
    injection e4 with e4
    injection e4 with e5 e6
    subst e5; subst e6
    exact .inr ⟨h4, h5⟩

theorem strsF_take {F : Nat → Prop} {w : World} {b off m cap C : Nat} {L : List ByteArray} (h : StrsF F w (.slice (some ⟨b, off, none⟩) m cap) L) (hC : C ≤ m) : StrsF F w (.slice (some ⟨b, off, none⟩) C C) (L.take C) := by
  obtain ⟨h0, h1, h2, h3, h4⟩ := strsF_open h
  have hl : (L.take C).length = C := by rw [List.length_take]; omega
  unfold StrsF
  rw [hl]
  refine ⟨⟨by simp; omega, _, C, rfl, Nat.le_refl _, by omega, ?_⟩, fun g e => by injection e with e; rw [← e]; exact h3⟩
  rcases h4 with h4 | ⟨h4, h5⟩
  · exact .inl (by omega)
  · refine .inr ⟨b, off, rfl, h4, fun j u hu => h5 j u ?_⟩
    rw [List.map_take, List.getElem?_take] at hu
    split at hu
    · exact hu
    · cases hu

theorem strsF_drop {F : Nat → Prop} {w : World} {b off m cap C : Nat} {L : List ByteArray} (h : StrsF F w (.slice (some ⟨b, off, none⟩) m cap) L) (hC : C ≤ m) : StrsF F w (.slice (some ⟨b, off + C, none⟩) (m - C) (cap - C)) (L.drop C) := by
  obtain ⟨h0, h1, h2, h3, h4⟩ := strsF_open h
  have hl : (L.drop C).length = m - C := by rw [List.length_drop]; omega
  unfold StrsF
  rw [hl]
  refine ⟨⟨by simp; omega, _, cap - C, rfl, by omega, by omega, ?_⟩, fun g e => by injection e with e; rw [← e]; exact h3⟩
  rcases h4 with h4 | ⟨h4, h5⟩
  · exact .inl (by omega)
  · refine .inr ⟨b, off + C, rfl, h4, fun j u hu => ?_⟩
    rw [List.map_drop, List.getElem?_drop] at hu
    rw [Nat.add_assoc]
    exact h5 _ u hu

theorem since_old {F : Nat → Prop} {w w' : World} : ∀ x, F x → Since F w w' x := fun _ h => .inl h
theorem since_more {F : Nat → Prop} {w a b : World} (h : a.heap.size ≤ b.heap.size) : ∀ x, Since F w a x → Since F w b x := fun _ h' => h'.elim .inl (fun h'' => .inr ⟨h''.1, by omega⟩)
theorem since_since {F : Nat → Prop} {w a b : World} (h1 : w.heap.size ≤ a.heap.size) (h2 : a.heap.size ≤ b.heap.size) : ∀ x, Since (Since F w a) a b x → Since F w b x := fun x h => by
  rcases h with (h | h) | h
  · exact .inl h
  · exact .inr ⟨h.1, by omega⟩
  · exact .inr ⟨by omega, h.2⟩

/-- An edge split in two: three new blocks. -/
theorem put_split {F : Nat → Prop} {w1 V : World} {kb : Nat} {k : Tree} {b3 o3 m0 c3 C : Nat} {mv : Value} {kv : Value} {bs2 : List Nat} {e1 e2 : TypeId} (O : Rt.Open F V kb k (.slice (some ⟨b3, o3, none⟩) m0 c3) mv kv bs2) (hC : C < m0) (hB : w1.heap.size ≤ V.heap.size) {A1 A2 A3 : World}
    (hA1 : V.alloc (.cells #[.slice (some ⟨b3, o3 + C, none⟩) (m0 - C) (c3 - C), mv, kv] e1) = A1) (hA2 : A1.alloc (.cells #[.pointer (some ⟨V.heap.size, 0, none⟩)] e2) = A2)
    (hA3 : A2.alloc (.cells #[.slice (some ⟨b3, o3, none⟩) C C, .pointer none, .slice (some ⟨A1.heap.size, 0, none⟩) 1 1] e1) = A3) :
    NodeAt (Since F w1 A3) A3 A2.heap.size (cutAt k C) ∧ Below V.heap.size V A3 ∧ A1.heap.size = V.heap.size + 1 ∧ A2.heap.size = V.heap.size + 2 ∧ A3.heap.size = V.heap.size + 3 := by
  have hm0 : k.lv.length = m0 := (strsF_open O.hsf).1
  have hcut : cutAt k C = .node (k.lv.take C) none [.node (k.lv.drop C) k.val k.kids] := by unfold cutAt; rw [if_pos (by omega)]
  rw [hcut]
  have s1 : A1.heap.size = V.heap.size + 1 := by rw [← hA1]; simp
  have s2 : A2.heap.size = A1.heap.size + 1 := by rw [← hA2]; simp
  have s3 : A3.heap.size = A2.heap.size + 1 := by rw [← hA3]; simp
  have nw : ∀ g, w1.heap.size ≤ g → g < A3.heap.size → Since F w1 A3 g := fun g a b => .inr ⟨a, b⟩
  obtain ⟨n1, b1, _⟩ := node_new (F := Since F w1 A3) (t := Tr.node (k.lv.drop C) k.val k.kids) (bs := bs2) hA1 (nw _ hB (by omega)) (RowF.mono (strsF_drop O.hsf (by omega)) since_old) (O.hm.mono since_old) (O.hkf.mono since_old) O.hl (fun i b k' e e' => NodeAt.mono since_old (O.hn i b k' e e'))
  have g2 := (MapKept.heap_alloc A1 (.cells #[.pointer (some ⟨V.heap.size, 0, none⟩)] e2)).1
  rw [hA2] at g2
  have b2 : Below A1.heap.size A1 A2 := by rw [← hA2]; exact (Below.refl _ _).alloc (Nat.le_refl _) _
  have hrow : RowF (Since F w1 A3) A2 1 (.slice (some ⟨A1.heap.size, 0, none⟩) 1 1) [V.heap.size].length ([V.heap.size].map ptrV) := by
    refine ⟨⟨rfl, _, 1, rfl, Nat.le_refl _, by unfold maxLen; omega, .inr ⟨_, 0, rfl, by omega, fun j u hu => ?_⟩⟩, fun g e => by injection e with e; rw [← e]; exact nw A1.heap.size (by omega) (by omega)⟩
    unfold World.cell?
    simp only [g2]
    rw [Nat.zero_add]
    simpa [ptrV] using hu
  obtain ⟨n3, b3, _⟩ := node_new (F := Since F w1 A3) (t := Tr.node (k.lv.take C) none [.node (k.lv.drop C) k.val k.kids]) (bs := [V.heap.size]) hA3 (nw _ (by omega) (by omega))
    (RowF.keep (RowF.mono (strsF_take O.hsf (Nat.le_of_lt hC)) since_old) (Same.below (b1.trans (b2.mono (by omega))))) rfl hrow rfl (fun i b k' e e' => by
      cases i with
      | zero => simp [Tr.kids_node] at e e'; subst e; subst e'; exact NodeAt.keep b2 n1
      | succ i => simp at e)
  exact ⟨n3, (b1.trans (b2.mono (by omega))).trans (b3.mono (by omega)), s1, by omega, by omega⟩

/-- The last step: the new child stands in the row of the call's own, and the node is made. -/
theorem put_fin {F : Nat → Prop} {w w1 w3 w4 V V5 : World} {p g n cap q q' B : Nat} {t k' : Tree} {sv mv kv : Value} {bs : List Nat} {E ty : TypeId} (hF : ∀ x, F x → x < w.heap.size) (hb1 : Below w.heap.size w w1) (O : Rt.Open F w1 p t sv mv kv bs) (hB : w.heap.size ≤ B)
    (hown : w1.ownsRow B E 1 (.slice (some ⟨g, 0, none⟩) n cap) bs.length (bs.map ptrV)) (hb3 : Below w1.heap.size w1 w3) (hk' : NodeAt (Since F w1 w3) w3 q' k') (h4 : w3.setCell ⟨g, q, none⟩ (ptrV q') = w4) (hV : Below w4.heap.size w4 V)
    (h5 : V.alloc (.cells #[sv, mv, .slice (some ⟨g, 0, none⟩) n cap] ty) = V5) : NodeAt (Since F w V5) V5 V.heap.size (.node t.lv t.val (t.kids.set q k')) ∧ Below w.heap.size w V5 := by
  obtain ⟨hg0, hg1⟩ := hown.lt g rfl
  have hbn : n = bs.length := by
    rcases hown.2 with ⟨h, _⟩ | ⟨g', c', cur, h, _⟩
    · simp at h
    · injection h
  subst hbn
  have hw1 := hb1.size
  have hw3 := hb3.size
  obtain ⟨o4, gr4⟩ := (owns_below hown hb3).stored (n := bs.length) q (ptrV q')
  rw [h4] at o4 gr4
  have hw4 : w4.heap.size = w3.heap.size := by rw [← h4]; simp [World.setCell]
  have hwV := hV.size
  have hbg : Below g w3 w4 := grown_below gr4 (by omega) (fun x e => by injection e with e; omega)
  have hng : ∀ x, Since F w1 w3 x → x ≠ g := fun x h e => by
    subst e
    rcases h with h | h
    · have := hF _ h; omega
    · omega
  have hsm : Same (Since F w1 w3) w3 w4 := fun x hx hS => gr4.block x hx (fun e => hng x hS (by injection e))
  have k4 := NodeAt.same hsm hk'
  have O3 := O.below hb3
  have O4 : Rt.Open (Since F w1 w3) w4 p t sv mv kv bs := (O3.mono since_old).same hsm
  have O5 := (O4.below hV).mono (fun x h => (h.elim .inl (fun h => .inr ⟨by omega, by omega⟩) : Since F w V x))
  have k5 := NodeAt.mono (fun x h => (h.elim .inl (fun h => .inr ⟨by omega, by omega⟩) : Since F w V x)) (NodeAt.keep hV k4)
  have o5 := RowF.of_owns (F := Since F w V) (owns_below o4 hV) (fun x a b => .inr ⟨by omega, b⟩)
  rw [← List.map_set] at o5
  have el : (bs.set q q').length = bs.length := List.length_set
  have hbw : Below w.heap.size w V := ((hb1.trans (hb3.mono hw1)).trans (hbg.mono (by omega))).trans (hV.mono (by omega))
  have s5 : V5.heap.size = V.heap.size + 1 := by rw [← h5]; simp
  obtain ⟨h1, h2, h3⟩ := node_new (F := Since F w V5) (t := Tr.node t.lv t.val (t.kids.set q k')) (bs := bs.set q q') h5 (.inr ⟨by omega, by omega⟩) (RowF.mono O5.hsf (since_more (by omega))) (O5.hm.mono (since_more (by omega))) (by rw [el]; exact o5.mono (since_more (by omega))) (by rw [el]; simp [O5.hl, Tr.kids_node]) (fun i b k2 e e' => by
    simp only [Tr.kids_node] at e'
    rw [List.getElem?_set] at e e'
    rw [← O5.hl] at e'
    by_cases hi : q = i
    · rw [if_pos hi] at e e'
      split at e
      · rename_i hlt
        rw [if_pos hlt] at e'
        injection e with e; injection e' with e'
        subst e; subst e'
        exact NodeAt.mono (since_more (by omega)) k5
      · cases e
    · rw [if_neg hi] at e e'
      exact NodeAt.mono (since_more (by omega)) (O5.hn i b k2 e e'))
  exact ⟨h1, hbw.trans (h2.mono (by omega))⟩
end Go.Proofs.YtgnffkahlniehaaGreat
