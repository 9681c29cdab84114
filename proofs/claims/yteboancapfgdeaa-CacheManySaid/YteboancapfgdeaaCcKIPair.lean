/- A pair between two calls, beside others. -/
import Derived.Test.YteboancapfgdeaaCcKIBegin
import Derived.Test.YteboancapfgdeaaCcPairP
namespace Go.Proofs.Yteboancapfgdeaa.KI
open Go.RowKit Go.Proofs.Cc

def PairW (o : Nat → Nat) (i : Nat) (w : World) (c mp kp vp most j : Nat) : Prop :=
  ∃ E KL VL, DoesAt o i w c mp kp vp most E KL VL ∧ KL.length ≤ 2 * j ∧ VL.length ≤ 2 * j

theorem PairW.below {o : Nat → Nat} {i : Nat} {w w' : World} {c mp kp vp most j : Nat} (h : PairW o i w c mp kp vp most j) (hb : Below w.heap.size w w') : PairW o i w' c mp kp vp most j := by
  obtain ⟨E, KL, VL, h1, h2, h3⟩ := h
  exact ⟨E, KL, VL, h1.below hb, h2, h3⟩

theorem PairW.other {o o' : Nat → Nat} {i k : Nat} {w w' : World} {c mp kp vp most j : Nat} (h : PairW o i w c mp kp vp most j) (A : Aft o k w o' w') (hd : i + 4 ≤ k ∨ k + 4 ≤ i) : PairW o' i w' c mp kp vp most j := by
  obtain ⟨E, KL, VL, h1, h2, h3⟩ := h
  exact ⟨E, KL, VL, ⟨h1.quad.other A hd, h1.key, h1.val, h1.len⟩, h2, h3⟩

theorem PairW.recolor {o : Nat → Nat} {i : Nat} {w : World} {c mp kp vp most j : Nat} (h : PairW o i w c mp kp vp most j) (t : Nat) : PairW (recolor o w t) i w c mp kp vp most j := by
  obtain ⟨E, KL, VL, h1, h2, h3⟩ := h
  exact ⟨E, KL, VL, ⟨h1.quad.recolor t, h1.key, h1.val, h1.len⟩, h2, h3⟩

theorem PairW.more {o : Nat → Nat} {i : Nat} {w : World} {c mp kp vp most j j' : Nat} (h : PairW o i w c mp kp vp most j) (hj : j ≤ j') : PairW o i w c mp kp vp most j' := by
  obtain ⟨E, KL, VL, h1, h2, h3⟩ := h
  exact ⟨E, KL, VL, h1, by omega, by omega⟩

theorem PairW.doesKI_ {o : Nat → Nat} {i : Nat} {w : World} {c mp kp vp most j : Nat} (h : PairW o i w c mp kp vp most j) (hm : most ≤ 1048576) (hj : j ≤ 20000) (kind : Int) (k : KeyV) (v : I64) (stop : Int) :
    Calls Try.prog 25 #[.agg #[.pointer (some ⟨c, 0, none⟩), .pointer (some ⟨mp, 0, none⟩), .pointer (some ⟨kp, 0, none⟩), .pointer (some ⟨vp, 0, none⟩)], .int .i64 kind, .agg #[.string k.name.1, .int .i64 k.n.1], .int .i64 v.1, .int .i64 stop] w
      fun ex w' => ex = .returned (.bool true) ∧ ∃ o', PairW o' i w' c mp kp vp most (j + 1) ∧ Aft o i w o' w' := by
  obtain ⟨E, KL, VL, h1, h2, h3⟩ := h
  refine (doesKI_any h1 hm (by omega) (by omega) kind k v stop).mono ?_
  rintro ex w' ⟨rfl, o', E', KL', VL', hD, hk, hv, ho, hT⟩
  exact ⟨rfl, o', ⟨E', KL', VL', hD, by omega, by omega⟩, ho, hT⟩

theorem PairW.allKI_ {o : Nat → Nat} {i : Nat} {w : World} {c mp kp vp most j : Nat} (h : PairW o i w c mp kp vp most j) (hm : most ≤ 1048576) (N : Int) :
    Calls Try.prog 26 #[.agg #[.pointer (some ⟨c, 0, none⟩), .pointer (some ⟨mp, 0, none⟩), .pointer (some ⟨kp, 0, none⟩), .pointer (some ⟨vp, 0, none⟩)], .int .i64 N] w
      fun ex w' => ex = .returned (.bool true) ∧ Below w.heap.size w w' := by
  obtain ⟨E, KL, VL, h1, h2, h3⟩ := h
  exact allKI_pair (h1.pair hm) N

/-- A new pair, at any place. -/
theorem pairKI_new {w : World} (m : Int) :
    Calls Try.prog 24 #[.int .i64 m] w fun ex w' => ∃ c mp kp vp, ex = .returned (.agg #[.pointer (some ⟨c, 0, none⟩), .pointer (some ⟨mp, 0, none⟩), .pointer (some ⟨kp, 0, none⟩), .pointer (some ⟨vp, 0, none⟩)]) ∧
      (∀ (o : Nat → Nat) (i : Nat), ∃ o' : Nat → Nat, PairW o' i w' c mp kp vp (clampN m) 0 ∧ ∀ x, x < w.heap.size → o' x = o x) ∧ Below w.heap.size w w' := by
  refine (beginKI_any m).mono ?_
  rintro ex w' ⟨c, mp, kp, vp, rfl, hnew, hb⟩
  refine ⟨c, mp, kp, vp, rfl, fun o i => ?_, hb⟩
  obtain ⟨o1, hD, ho⟩ := hnew o i
  exact ⟨o1, ⟨[], [], [], hD, Nat.le_refl _, Nat.le_refl _⟩, ho⟩

theorem clampN_le (m : Int) : clampN m ≤ 1048576 := by unfold clampN; omega

end Go.Proofs.Yteboancapfgdeaa.KI
