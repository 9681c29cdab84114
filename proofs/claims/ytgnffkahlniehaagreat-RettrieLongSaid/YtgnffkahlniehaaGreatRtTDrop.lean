/- Proved here: Drop, of a trie. -/
import Derived.Test.YtgnffkahlniehaaGreatRtGet
import Derived.Test.YtgnffkahlniehaaGreatRtDropA
namespace Go.Proofs.YtgnffkahlniehaaGreat
open Go Go.RowKit Go.Proofs.Gs Go.Proofs.Tri Go.Proofs.Rt Go.Proofs.Tp

/-- What a call leaves behind that may change a trie. -/
def TriePost (F : Nat → Prop) (w : World) (tb : Nat) (t' : Tree) (w' : World) : Prop := TrieAt (Since F w w') w' tb t' ∧ w.grownBy w' (some tb)

theorem TrieAt.since {F : Nat → Prop} {w w' : World} {tb : Nat} {t : Tree} (h : TrieAt F w tb t) (hb : Below w.heap.size w w') : TriePost F w tb t w' := by
  have hb' := h.below hb
  obtain ⟨p, hp, hn⟩ := hb'.root
  have hs := hb.size
  refine ⟨⟨⟨p, hp, NodeAt.mono since_old hn⟩, hb'.fit, fun hx => ?_, fun x hx => ?_, h.forest, h.lim⟩, ⟨hb.os, hb.tape, hb.output, hb.size, fun k hk _ => hb.block k hk⟩⟩
  · rcases hx with hx | hx
    · exact h.out hx
    · have := h.lt; omega
  · rcases hx with hx | hx
    · have := h.old x hx; omega
    · exact hx.2

/-- A trie whose root is another now. -/
theorem TrieAt.turned {F : Nat → Prop} {w w1 W : World} {tb q : Nat} {t t' : Tree} (h : TrieAt F w tb t) (hb : Below w.heap.size w w1) (hn : NodeAt (Since F w w1) w1 q t') (hf : Forest ltB t'.kids) (hl : Lim t') (hW : w1.setCell ⟨tb, 0, none⟩ (.pointer (some ⟨q, 0, none⟩)) = W) : TriePost F w tb t' W := by
  have hlt := h.lt
  have hs := hb.size
  obtain ⟨p, hp, _⟩ := (h.below hb).root
  have hWs : W.heap.size = w1.heap.size := by rw [← hW]; simp [World.setCell]
  have other : ∀ k, k ≠ tb → W.heap[k]? = w1.heap[k]? := fun k hk => by rw [← hW]; exact heap_setCell_other _ _ _ _ hk
  have hno : ¬ Since F w w1 tb := fun hx => by
    rcases hx with hx | hx
    · exact h.out hx
    · omega
  have hSe : ∀ x, Since F w w1 x → Since F w W x := since_more (by omega)
  refine ⟨⟨⟨q, by rw [← hW]; exact World.cell?_setCell_same _ _ _ hp, NodeAt.mono hSe (NodeAt.same (fun k _ hk => other k (fun e => hno (by rw [← e]; exact hk))) hn)⟩, ?_, fun hx => ?_, fun x hx => ?_, hf, hl⟩, ⟨by rw [← hW]; exact hb.os, by rw [← hW]; exact hb.tape, by rw [← hW]; exact hb.output, by omega, fun k hk hne => (other k (fun e => hne (by rw [e]))).trans (hb.block k hk)⟩⟩
  · rw [← hW, World.frozen?_setCell]; exact (h.below hb).fit
  · rcases hx with hx | hx
    · exact h.out hx
    · omega
  · rcases hx with hx | hx
    · have := h.old x hx; omega
    · exact hx.2

theorem drp_lim {t : Tree} (hf : Forest ltB t.kids) (hl : Lim t) {path : List ByteArray} (hg : (get path (body t)).isSome = true) : Forest ltB (drp ltB t path).kids ∧ Lim (drp ltB t path) ∧ body (drp ltB t path) = era path (body t) := by
  obtain ⟨_, d2, d3⟩ := drp_spec linB path.length path t (Nat.le_refl _) hf hg
  refine ⟨d3, ⟨?_, fun e he => ?_⟩, d2⟩
  · rw [d2]; exact Nat.le_trans (List.length_filter_le _ _) hl.count
  · rw [d2] at he; exact hl.long e (List.mem_filter.1 he).1

set_option maxHeartbeats 4000000 in
set_option maxRecDepth 100000 in
theorem tdrop_any {F : Nat → Prop} {w : World} {tb : Nat} {t : Tree} (T : TrieAt F w tb t) (hsh : Short t) (s : ByteArray) (hs : s.size ≤ 1000000000) :
    Calls Tryz.prog 12 #[.pointer (some ⟨tb, 0, none⟩), .string s] w fun e w' =>
      e = .returned (.bool (get (levels s) (body t)).isSome) ∧ TriePost F w tb (if (get (levels s) (body t)).isSome = true then drp ltB t (levels s) else t) w' := by
  have HGET := Lib.hid (get_any T hsh s hs)
  have HT := Lib.hid T
  obtain ⟨r, hr⟩ : ∃ r, get (levels s) (body t) = r := ⟨_, rfl⟩
  have HR := Lib.hid hr
  rw [hr] at HGET ⊢
  clear T hr
  cases r with
  | none =>
    go_enter Tryz.func12, Tryz.ntmps12
    go_wp2_with fail
    refine HGET.out.mono ?_
    rintro e w1 ⟨⟨v, ⟨tt, a, n, c, q, rr, rfl⟩, rfl, -⟩, hb⟩
    have HB := Lib.hid hb
    clear hb
    go_wp2_with fail
    go_ret
    refine ⟨rfl, ?_⟩
    show TriePost F w tb t _
    exact HT.out.since (HB.out.alloc HB.out.size _)
  | some m =>
    go_enter Tryz.func12, Tryz.ntmps12
    go_wp2_with fail
    refine HGET.out.mono ?_
    rintro e w1 ⟨⟨v, ⟨tt, a, n, c, q, rr, rfl⟩, rfl, -⟩, hb⟩
    have HB := Lib.hid hb
    clear hb
    go_wp2_with fail
    have hb0 : Below w.heap.size w (w1.alloc (.cells #[.string tt, .slice a n c, .int .i64 q, .bool rr] 36)) := HB.out.alloc HB.out.size _
    generalize w1.alloc (.cells #[.string tt, .slice a n c, .int .i64 q, .bool rr] 36) = W0 at hb0 ⊢
    have T0 := HT.out.below hb0
    obtain ⟨p, c0, hn⟩ := T0.root
    have hlt0 := HT.out.lt
    have hf0 := T0.fit
    have HB0 := Lib.hid hb0
    have HN := Lib.hid hn
    have HDROP := Lib.hid (fun (W : World) (hbw : Below W0.heap.size W0 W) (v : Value) (hv : StrsAt W v (levels s)) => drop_any (levels s).length F W p t v (levels s) (Nat.le_refl _) (levels_len s hs).2 ⟨NodeAt.keep hbw hn, T0.forest, T0.lim⟩ (fun x hx => by have := T0.old x hx; have := hbw.size; omega) hv (by rw [HR.out]; rfl))
    clear hn T0 hb0
    go_region_law (first
      | (go_simp; go_at_call 28; refine (levels_any s _ hs).mono ?_; rintro e w2 ⟨v1, rfl, hown, hb2⟩; have HB2 := Lib.hid (show Below W0.heap.size W0 w2 from by first | exact hb2 | exact ((Below.refl _ W0).drew).trans hb2); have HST := Lib.hid (StrsAt.of_owns hown); have c2 := cell_below HB2.out c0; clear hown hb2)
      | (go_simp; go_at_call 32; refine (HDROP.out _ HB2.out _ HST.out).mono ?_; rintro e w3 ⟨q3, rfl, hn3, hb3⟩; have HB3 := Lib.hid hb3; have HN3 := Lib.hid hn3; have c3 := cell_below hb3 c2; have f3 : w3.frozen? ⟨tb, 0, none⟩ = false := (HT.out.below ((HB0.out.trans (HB2.out.mono HB0.out.size)).trans (hb3.mono (by have := HB0.out.size; have := HB2.out.size; omega)))).fit; clear hn3 hb3))
    all_goals
      go_wp2_with fail
      go_ret
      obtain ⟨l1, l2, l3⟩ := drp_lim HT.out.forest HT.out.lim (path := levels s) (by rw [HR.out]; rfl)
      have h1 := HB0.out.size
      have h2 := HB2.out.size
      have hb02 := HB0.out.trans (HB2.out.mono h1)
      refine ⟨rfl, ?_⟩
      show TriePost F w tb (drp ltB t (levels s)) _
      exact HT.out.turned (hb02.trans (HB3.out.mono (by omega))) (NodeAt.mono (since_weak (by omega)) HN3.out) l1 l2 rfl
end Go.Proofs.YtgnffkahlniehaaGreat
