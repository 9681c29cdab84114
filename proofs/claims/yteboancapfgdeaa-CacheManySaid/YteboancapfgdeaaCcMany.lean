/- Many pairs beside one another: their row, their colours. -/
import Derived.Test.YteboancapfgdeaaCcKIPair
namespace Go.Proofs.Yteboancapfgdeaa
open Go.RowKit Go.Proofs.Cc

/-- A pair's four pointers. -/
structure PV where
  c : Nat
  m : Nat
  k : Nat
  v : Nat

def PV.cells (p : PV) : List Value := [.pointer (some ⟨p.c, 0, none⟩), .pointer (some ⟨p.m, 0, none⟩), .pointer (some ⟨p.k, 0, none⟩), .pointer (some ⟨p.v, 0, none⟩)]
def prow (L : List PV) : List Value := L.flatMap PV.cells

theorem prow_get : ∀ (L : List PV) (i : Nat) (p : PV), L[i]? = some p → (prow L)[i * 4]? = some (.pointer (some ⟨p.c, 0, none⟩)) ∧ (prow L)[i * 4 + 1]? = some (.pointer (some ⟨p.m, 0, none⟩)) ∧ (prow L)[i * 4 + 2]? = some (.pointer (some ⟨p.k, 0, none⟩)) ∧ (prow L)[i * 4 + 3]? = some (.pointer (some ⟨p.v, 0, none⟩))
  | [], i, p, h => by simp at h
  | q :: L, 0, p, h => by simp at h; subst h; simp [prow, PV.cells]
  | q :: L, i + 1, p, h => by
    have := prow_get L i p (by simpa using h)
    have e : (i + 1) * 4 = i * 4 + 4 := by omega
    rw [e]
    simpa [prow, PV.cells] using this

theorem prow_app (L : List PV) (p : PV) : prow (L ++ [p]) = prow L ++ p.cells := by simp [prow]

namespace KI
theorem PairW.turn0 {o : Nat → Nat} {i : Nat} {w w' : World} {c mp kp vp most j : Nat} (h : PairW o i w c mp kp vp most j) (hT : Turn (fun x => o x = 0) w w') : PairW o i w' c mp kp vp most j := by
  obtain ⟨E, KL, VL, ⟨Q, h1, h2, h3⟩, h4, h5⟩ := h
  have hs : ∀ t, i < t → Same (fun x => o x = t ∧ x < w.heap.size) w w' := fun t h1 => hT.same (fun x hx h => by have := hx.1; omega)
  have hw : ∀ t x, (o x = t ∧ x < w.heap.size) → o x = t := fun t x hx => hx.1
  exact ⟨E, KL, VL, ⟨⟨((CacheAt.tight Q.cache).frame (hs _ (by omega))).wider (hw _), ((RefAt.tight Q.ref).frame (hs _ (by omega))).wider (hw _), ((CodesAt.tight Q.keys).frame (hs _ (by omega))).wider (hw _), ((CodesAt.tight Q.vals).frame (hs _ (by omega))).wider (hw _)⟩, h1, h2, h3⟩, h4, h5⟩

structure ManyAt (w : World) (mm : Int) (Ps : List PV) (v : Value) (cnt : Nat) (u : World) (o : Nat → Nat) : Prop where
  pairs : ∀ t p, Ps[t]? = some p → PairW o (4 * t) u p.c p.m p.k p.v (clampN (mm + t)) cnt
  old : ∀ x, x < w.heap.size → o x = 0
  row : u.ownsRow w.heap.size 66 4 v Ps.length (prow Ps)
  col : ∀ g, v.ownBlock = some g → o g = 0
  below : Below w.heap.size w u

section
variable {w u u' : World} {mm : Int} {Ps : List PV} {v v' : Value} {cnt : Nat} {o : Nat → Nat}

theorem ManyAt.frame (h : ManyAt w mm Ps v cnt u o) (hb : Below u.heap.size u u') : ManyAt w mm Ps v cnt u' o :=
  ⟨fun t p hp => (h.pairs t p hp).below hb, h.old, ownsRow_same h.row (Below.toSame hb (S := fun _ => True)) (fun _ _ => trivial), h.col, h.below.trans (hb.mono h.below.size)⟩

theorem ManyAt.more {cnt' : Nat} (h : ManyAt w mm Ps v cnt u o) (hc : cnt ≤ cnt') : ManyAt w mm Ps v cnt' u o :=
  ⟨fun t p hp => (h.pairs t p hp).more hc, h.old, h.row, h.col, h.below⟩

theorem ManyAt.open (h : ManyAt w mm Ps v cnt u o) (hl : Ps ≠ []) : ∃ g cap, v = .slice (some ⟨g, 0, none⟩) Ps.length cap ∧ Ps.length ≤ cap ∧ cap ≤ 9223372036854775807 ∧
    ∀ t p, Ps[t]? = some p → u.cell? ⟨g, t * 4, none⟩ = some (.pointer (some ⟨p.c, 0, none⟩)) ∧ u.cell? ⟨g, t * 4 + 1, none⟩ = some (.pointer (some ⟨p.m, 0, none⟩)) ∧ u.cell? ⟨g, t * 4 + 2, none⟩ = some (.pointer (some ⟨p.k, 0, none⟩)) ∧ u.cell? ⟨g, t * 4 + 3, none⟩ = some (.pointer (some ⟨p.v, 0, none⟩)) := by
  have hr := h.row
  rcases hr.2 with ⟨_, h0⟩ | ⟨g, cap, cur, rfl, _, _, hc, hm, _, _⟩
  · exact absurd (List.eq_nil_of_length_eq_zero h0) hl
  · refine ⟨g, cap, rfl, hc, hm, fun t p hp => ?_⟩
    have hlt := (List.getElem?_eq_some_iff.1 hp).1
    obtain ⟨g0, g1, g2, g3⟩ := prow_get Ps t p hp
    exact ⟨(hr.cellAt (t * 4) (by omega)).trans g0, (hr.cellAt (t * 4 + 1) (by omega)).trans g1, (hr.cellAt (t * 4 + 2) (by omega)).trans g2, (hr.cellAt (t * 4 + 3) (by omega)).trans g3⟩

theorem ManyAt.add (h : ManyAt w mm Ps v cnt u o) {c m k x : Nat} (hn : ∀ (o : Nat → Nat) (i : Nat), ∃ o' : Nat → Nat, PairW o' i u' c m k x (clampN (mm + (Ps.length : Int))) 0 ∧ ∀ y, y < u.heap.size → o' y = o y) (hb : Below u.heap.size u u')
    {u1 u3 : World} {ob : Obj} (hb1 : Below u'.heap.size u' u1) (hg : (u1.alloc ob).grownBy u3 v.ownBlock) (hown : u3.ownsRow w.heap.size 66 4 v' (Ps.length + 1) (prow Ps ++ (PV.mk c m k x).cells))
    (hob : v'.ownBlock = v.ownBlock ∨ v'.ownBlock = some (u1.heap.size + 1)) : ∃ o3, ManyAt w mm (Ps ++ [⟨c, m, k, x⟩]) v' cnt u3 o3 := by
  obtain ⟨o1, hP, ho1⟩ := hn o (4 * Ps.length)
  have hs1 := hb.size
  have hs2 := hb1.size
  have hlt : ∀ g, v.ownBlock = some g → w.heap.size ≤ g ∧ g < u.heap.size := fun g e => h.row.lt g e
  have hA : Aft o (4 * Ps.length) u o1 u' := ⟨ho1, Turn.of_below hb⟩
  have hold : ∀ y, y < u1.heap.size → recolor o1 u1 0 y = o1 y := fun y hy => recolor_old o1 u1 0 y hy
  have hz : ∀ y, u1.heap.size ≤ y → recolor o1 u1 0 y = 0 := fun y hy => recolor_new o1 u1 0 y hy
  have hbA : Below u1.heap.size u1 (u1.alloc ob) := (Below.refl _ _).alloc (Nat.le_refl _) _
  have hv0 : ∀ g, v.ownBlock = some g → recolor o1 u1 0 g = 0 := fun g e => by
    have := hlt g e
    rw [hold g (by omega), ho1 g (by omega)]
    exact h.col g e
  have hT : Turn (fun y => recolor o1 u1 0 y = 0) (u1.alloc ob) u3 := (Turn.refl _ _).grown hg (fun g e => .inl (hv0 g e))
  refine ⟨recolor o1 u1 0, ?_, fun y hy => ?_, ?_, fun g e => ?_, ?_⟩
  · intro t p hp
    by_cases ht : t < Ps.length
    · rw [List.getElem?_append_left ht] at hp
      have hlt' : 4 * t + 4 ≤ 4 * Ps.length := by omega
      exact (((((h.pairs t p hp).other hA (.inl hlt')).below hb1).recolor 0).below hbA).turn0 hT
    · have hl := (List.getElem?_eq_some_iff.1 hp).1
      simp at hl
      have ht' : t = Ps.length := by omega
      subst ht'
      rw [List.getElem?_append_right (Nat.le_refl _)] at hp
      simp at hp
      subst hp
      exact ((((hP.more (Nat.zero_le cnt)).below hb1).recolor 0).below hbA).turn0 hT
  · have := h.below.size
    rw [hold y (by omega), ho1 y (by omega)]
    exact h.old y hy
  · rw [prow_app, List.length_append]
    exact hown
  · rcases hob with e' | e'
    · exact hv0 g (e'.symm.trans e)
    · rw [e'] at e
      injection e with e
      exact hz g (by omega)
  · have h1 : Below w.heap.size w (u1.alloc ob) := ((h.below.trans (hb.mono h.below.size)).trans (hb1.mono (Nat.le_trans h.below.size hb.size))).alloc (Nat.le_trans h.below.size (Nat.le_trans hb.size hb1.size)) ob
    exact h1.grown hg (by have := h.below.size; simp; omega) (fun g e => (hlt g e).1)

theorem many_does (h : ManyAt w mm Ps v cnt u o) {t : Nat} {p : PV} (hp : Ps[t]? = some p) (hj : cnt ≤ 20000) (kind : Int) (k : KeyV) (x : I64) (stop : Int) :
    Calls Try.prog 25 #[.agg #[.pointer (some ⟨p.c, 0, none⟩), .pointer (some ⟨p.m, 0, none⟩), .pointer (some ⟨p.k, 0, none⟩), .pointer (some ⟨p.v, 0, none⟩)], .int .i64 kind, .agg #[.string k.name.1, .int .i64 k.n.1], .int .i64 x.1, .int .i64 stop] u
      fun ex u' => ex = .returned (.bool true) ∧ ∃ o', ManyAt w mm Ps v (cnt + 1) u' o' := by
  refine (PairW.doesKI_ (h.pairs t p hp) (clampN_le _) hj kind k x stop).mono ?_
  rintro ex u' ⟨rfl, o', hP, hA⟩
  refine ⟨rfl, o', fun s q hq => ?_, fun y hy => ?_, ?_, fun g e => ?_, ?_⟩
  · by_cases hst : s = t
    · subst hst
      rw [hp] at hq
      injection hq with hq
      subst hq
      exact hP
    · exact ((h.pairs s q hq).other hA (by omega)).more (Nat.le_succ _)
  · rw [hA.same y (Nat.lt_of_lt_of_le hy h.below.size)]
    exact h.old y hy
  · exact ownsRow_same h.row (hA.turn.same (T := fun y => o y = 0) (fun y hy hc => by omega)) (fun g e => h.col g e)
  · rw [hA.same g (h.row.lt g e).2]
    exact h.col g e
  · exact h.below.trans (hA.below h.below.size h.old)

end
end KI
end Go.Proofs.Yteboancapfgdeaa
