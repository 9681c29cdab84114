/- Plain: what the law's given works in. No code walked. -/
import Derived.Test.YtgnffkahlniehaaGreatRtFindOne
import Derived.Test.YtgnffkahlniehaaGreatRtMsgs
import Derived.RangeFuncBox
import Derived.Maps.AppendAt
namespace Go.Proofs.YtgnffkahlniehaaGreat
open Go Go.RowKit Go.Proofs.Gs Go.Proofs.Tri Go.Proofs.Rt Go.Proofs.Tp

/-- The rows of what was given, in memory: out of what others have. -/
structure Taken (Z : Nat) (X : Nat → Prop) (pre : List MsgV) (W : World) (v : Value) (pvs : List Value) : Prop where
  len : pvs.length = pre.length
  own : W.ownsRow Z 36 4 v pre.length (msgRow pre pvs)
  pays : ∀ (i : Nat) (m : MsgV) (pv : Value), pre[i]? = some m → pvs[i]? = some pv → RowF (fun x => Z ≤ x ∧ x < W.heap.size ∧ some x ≠ v.ownBlock) W 1 pv m.pay.length (payCells m.pay)
  apart : ∀ x, X x → some x ≠ v.ownBlock

structure GivAt (w0 : World) (Z bw bn bl : Nat) (X : Nat → Prop) (pre : List MsgV) (W : World) : Prop where
  well : Boxed W bw 4 (.bool true)
  num : Boxed W bn 3 (.int .i64 0)
  out : ∃ v pvs, Boxed W bl 43 v ∧ Taken Z X pre W v pvs
  old : ∀ x, X x → x < W.heap.size ∧ x ≠ bw ∧ x ≠ bl
  low : w0.heap.size ≤ bw ∧ w0.heap.size ≤ bl ∧ bw < Z ∧ bn < Z ∧ bl < Z ∧ bw ≠ bl ∧ bn ≠ bl ∧ bn ≠ bw ∧ Z ≤ W.heap.size
  below : Below w0.heap.size w0 W

theorem owned_lt {w : World} {B E k n : Nat} {v : Value} {xs : List Value} (h : w.ownsRow B E k v n xs) {b : Nat} (hb : v.ownBlock = some b) : B ≤ b ∧ b < w.heap.size := by
  rcases h.2 with ⟨rfl, _⟩ | ⟨g, cap, cur, rfl, h1, h2, _⟩
  · simp [Value.ownBlock] at hb
  · simp [Value.ownBlock] at hb
    subst hb
    exact ⟨h1, (Array.getElem?_eq_some_iff.1 h2).1⟩

/-- A row abides what turns no cells. -/
theorem owns_others {w w' : World} {B E k n : Nat} {v : Value} {xs : List Value} {row : Option Nat} (h : w.ownsRow B E k v n xs) (hg : w.grownBy w' row) (hr : ∀ r, row = some r → ∃ o : Obj, w.heap[r]? = some o ∧ o.isCells = false) : w'.ownsRow B E k v n xs := by
  obtain ⟨h0, h⟩ := h
  refine ⟨h0, ?_⟩
  rcases h with h | ⟨g, cap, cur, h1, h2, h3, h4⟩
  · exact .inl h
  · exact .inr ⟨g, cap, cur, h1, h2, (grownBy_keeps_cells hg hr h3 rfl).trans h3, h4⟩

theorem rowF_others {F : Nat → Prop} {w w' : World} {k n : Nat} {v : Value} {xs : List Value} {row : Option Nat} (h : RowF F w k v n xs) (hg : w.grownBy w' row) (hr : ∀ r, row = some r → ∃ o : Obj, w.heap[r]? = some o ∧ o.isCells = false) : RowF F w' k v n xs := by
  refine ⟨?_, h.2⟩
  obtain ⟨⟨h0, a, cap, h1, h2, h3, h4⟩, _⟩ := h
  refine ⟨h0, a, cap, h1, h2, h3, ?_⟩
  rcases h4 with h4 | ⟨b, off, e, hb, hc⟩
  · exact .inl h4
  · exact .inr ⟨b, off, e, Nat.lt_of_lt_of_le hb hg.size, fun j u hu => cell_kept (hc j u hu) hg hr⟩

theorem GivAt.others {w0 W W' : World} {Z bw bn bl : Nat} {X : Nat → Prop} {pre : List MsgV} (h : GivAt w0 Z bw bn bl X pre W) {row : Option Nat} (hg : W.grownBy W' row) (hr : ∀ r, row = some r → w0.heap.size ≤ r ∧ ∃ o : Obj, W.heap[r]? = some o ∧ o.isCells = false) : GivAt w0 Z bw bn bl X pre W' := by
  have hr2 := fun r e => (hr r e).2
  obtain ⟨v, pvs, hb, ht⟩ := h.out
  have hs := hg.size
  have bx : ∀ {B t u}, Boxed W B t u → Boxed W' B t u := fun {B t u} hB => hB.kept hg (fun e => by
    obtain ⟨o, ho, hc⟩ := hr2 B e.symm
    rw [show W.heap[B]? = _ from hB] at ho; cases ho; cases hc)
  refine ⟨bx h.well, bx h.num, ⟨v, pvs, bx hb, ht.len, owns_others ht.own hg hr2, fun i m pv h1 h2 => (rowF_others (ht.pays i m pv h1 h2) hg hr2).mono (fun x hx => ⟨hx.1, by omega, hx.2.2⟩), ht.apart⟩, fun x hx => ?_, ?_, ?_⟩
  · have := h.old x hx; exact ⟨by omega, this.2⟩
  · have := h.low; exact ⟨this.1, this.2.1, this.2.2.1, this.2.2.2.1, this.2.2.2.2.1, this.2.2.2.2.2.1, this.2.2.2.2.2.2.1, this.2.2.2.2.2.2.2.1, by omega⟩
  · exact h.below.grown hg h.below.size (fun k e => (hr k e).1)

theorem GivAt.more {w0 W W' : World} {Z bw bn bl : Nat} {X X' : Nat → Prop} {pre : List MsgV} (h : GivAt w0 Z bw bn bl X pre W) (hb : Below W.heap.size W W') (hX : ∀ x, X' x → X x ∨ (W.heap.size ≤ x ∧ x < W'.heap.size)) : GivAt w0 Z bw bn bl X' pre W' := by
  obtain ⟨v, pvs, hbx, ht⟩ := h.out
  have hs := hb.size
  have bx : ∀ {B t u}, Boxed W B t u → Boxed W' B t u := fun {B t u} hB => (hb.block B hB.lt).trans hB
  have hl := h.low
  refine ⟨bx h.well, bx h.num, ⟨v, pvs, bx hbx, ht.len, owns_below ht.own hb, fun i m pv h1 h2 => ((ht.pays i m pv h1 h2).keep (Same.below hb)).mono (fun x hx => ⟨hx.1, by omega, hx.2.2⟩), fun x hx e => ?_⟩, fun x hx => ?_, ?_, ?_⟩
  · rcases hX x hx with hx | hx
    · exact ht.apart x hx e
    · have := owned_lt ht.own e.symm; omega
  · rcases hX x hx with hx | hx
    · have := h.old x hx; exact ⟨by omega, this.2⟩
    · exact ⟨hx.2, by omega, by omega⟩
  · exact ⟨hl.1, hl.2.1, hl.2.2.1, hl.2.2.2.1, hl.2.2.2.2.1, hl.2.2.2.2.2.1, hl.2.2.2.2.2.2.1, hl.2.2.2.2.2.2.2.1, by omega⟩
  · exact h.below.trans (hb.mono h.below.size)

theorem msgRow_one {ms : List MsgV} {pvs : List Value} (hp : ∀ pv ∈ pvs, pv.oneCell' = true) : ∀ u ∈ msgRow ms pvs, u.oneCell' = true := by
  induction ms generalizing pvs with
  | nil => simp [msgRow]
  | cons m ms ih =>
    cases pvs with
    | nil => simp [msgRow]
    | cons pv pvs =>
      intro u hu
      rw [msgRow, List.mem_append] at hu
      rcases hu with hu | hu
      · simp [msgCells] at hu
        rcases hu with rfl | rfl | rfl | rfl
        · simp [Value.oneCell']
        · exact hp _ (by simp)
        · simp [Value.oneCell']
        · simp [Value.oneCell']
      · exact ih (fun pv h => hp pv (by simp [h])) u hu

theorem infoMsg : (Tryz.prog.info? 36).map (fun i => (i.zero, i.size, i.bytes)) = some (some (.agg #[.string ⟨#[]⟩, .slice none 0 0, .int .i64 0, .bool false]), 4, 56) := by kernel_rfl
end Go.Proofs.YtgnffkahlniehaaGreat
