/- What CacheHides holds between two calls: every list that is held stands outside the cache's own blocks. -/
import Derived.Test.YteboancapfgdeaaCcKLKv
import Derived.Test.YteboancapfgdeaaCcDoesP
import Derived.Test.YteboancapfgdeaaCcScript
namespace Go.Proofs.Yteboancapfgdeaa.KL
open Go.RowKit Go.WideShapes Go.Proofs.Cc

theorem rmD_split {K V : Type} [DecidableEq K] {D : List (K × V)} {k : K} {v : V} (hn : (D.map (·.1)).Nodup) (h : Cc.look k D = some v) : ∃ p q, D = p ++ (k, v) :: q ∧ rmD k D = p ++ q := by
  unfold Cc.look at h
  obtain ⟨⟨k', v'⟩, h1, h2⟩ := Option.map_eq_some_iff.1 h
  have hm := List.mem_of_find?_eq_some h1
  have hk : k' = k := by simpa using List.find?_some h1
  subst hk
  obtain rfl : v' = v := h2
  obtain ⟨p, q, rfl⟩ := List.append_of_mem hm
  refine ⟨p, q, rfl, ?_⟩
  rw [List.map_append, List.map_cons] at hn
  have hn2 := List.nodup_append.1 hn
  have hn3 := List.nodup_cons.1 hn2.2.1
  unfold rmD
  rw [List.filter_append, List.filter_cons]
  simp only [ne_eq, not_true_eq_false, decide_false, Bool.false_eq_true, ↓reduceIte]
  rw [List.filter_eq_self.2, List.filter_eq_self.2]
  · intro a ha
    have : a.1 ≠ k' := fun e => hn3.1 (by rw [← e]; exact List.mem_map_of_mem (f := (·.1)) ha)
    simpa using this
  · intro a ha
    have : a.1 ≠ k' := fun e => hn2.2.2 a.1 (List.mem_map_of_mem ha) k' (by simp) e
    simpa using this

theorem look_mem {K V : Type} [DecidableEq K] {D : List (K × V)} {k : K} {v : V} (h : Cc.look k D = some v) : (k, v) ∈ D := by
  unfold Cc.look at h
  obtain ⟨⟨k', v'⟩, h1, h2⟩ := Option.map_eq_some_iff.1 h
  have hm := List.mem_of_find?_eq_some h1
  have hk : k' = k := by simpa using List.find?_some h1
  subst hk
  obtain rfl : v' = v := h2
  exact hm

theorem look_cons {K V : Type} [DecidableEq K] (k : K) (v : V) (D : List (K × V)) : Cc.look k ((k, v) :: D) = some v := by
  unfold Cc.look
  rw [List.find?_cons]
  simp

theorem look_put {K V : Type} [DecidableEq K] {D : List (K × V)} {k : K} {v y : V} {most : Nat} (h : Cc.look k (putD most k v D) = some y) : y = v := by
  have hm := look_mem h
  have h2 : (k, y) ∈ (k, v) :: rmD k D := by
    unfold putD at hm
    split at hm
    · exact (List.dropLast_sublist _).subset hm
    · exact hm
  rcases List.mem_cons.1 h2 with e | h3
  · injection e
  · have := (List.mem_filter.1 h3).2
    simp at this

/-- What a key's list holds first. -/
def first (add : Int) (k : KeyV) : Int := wrap64 (k.n.1.tmod 1000 + add)

structure ListIn (w0 : World) (S : Nat → Prop) (add : Int) (k : KeyV) (g : Nat) (u : World) : Prop where
  notS : ¬ S g
  ge : w0.heap.size ≤ g
  live : Live u g
  c0 : u.cell? ⟨g, 0, none⟩ = some (.int .i64 (first add k))
  c1 : ∃ x, u.cell? ⟨g, 1, none⟩ = some (.int .i64 x)

structure HideAt (w0 : World) (c most : Nat) (add : Int) (D : List (KeyV × SlV)) (S : Nat → Prop) (E : List (Ent KeyV SlV)) (u : World) : Prop where
  cache : CacheAt Try.prog 31 kdK kdL u c S most E
  row : E.map kv = D
  len : D.length ≤ most
  vals : ∀ p ∈ D, ListIn w0 S add p.1 p.2.blk u
  geS : ∀ x, S x → w0.heap.size ≤ x
  below : Below w0.heap.size w0 u

structure BoxIn (bx : Nat) (op : OpV) (S : Nat → Prop) (u : World) : Prop where
  lt : bx < u.heap.size
  notS : ¬ S bx
  box : OpAt u bx 0 op

section
variable {w0 u u' : World} {bx : Nat} {op : OpV} {c most : Nat} {add : Int} {D D' : List (KeyV × SlV)} {S T : Nat → Prop} {E : List (Ent KeyV SlV)} {k : KeyV} {g : Nat}

theorem HideAt.nodup (h : HideAt w0 c most add D S E u) : (D.map (·.1)).Nodup := by
  obtain ⟨b, hh, Dm, C⟩ := h.cache
  rw [← h.row, ← keys_of (L := E.map kv) rfl]
  exact C.keys

theorem _root_.Go.Proofs.Yteboancapfgdeaa.OpAt.same (h : OpAt u bx 0 op) (hs : Same T u u') (hb : T bx) : OpAt u' bx 0 op :=
  ⟨hs.cell hb h.c0, hs.cell hb h.c1, hs.cell hb h.c2, hs.cell hb h.c3, hs.cell hb h.c4, hs.cell hb h.c5⟩

theorem ListIn.turn (h : ListIn w0 S add k g u) (hT : Turn S u u') : ListIn w0 (Grow S u) add k g u' := by
  have hs : Same (fun x => ¬ S x) u u' := hT.same (fun x hx hs => hx hs)
  have hl := h.live.lt
  obtain ⟨x, hx⟩ := h.c1
  exact ⟨fun y => y.elim h.notS (fun z => by omega), h.ge, hs.live h.notS h.live, hs.cell h.notS h.c0, x, hs.cell h.notS hx⟩

theorem BoxIn.turn (h : BoxIn bx op S u) (hT : Turn S u u') : BoxIn bx op (Grow S u) u' :=
  ⟨Nat.lt_of_lt_of_le h.lt hT.size, fun y => y.elim h.notS (fun z => by have := h.lt; omega), h.box.same (hT.same (T := fun x => ¬ S x) (fun x hx hs => hx hs)) h.notS⟩

theorem ListIn.frame (h : ListIn w0 S add k g u) (hb : Below u.heap.size u u') : ListIn w0 (fun x => S x ∧ x < u.heap.size) add k g u' := by
  have hs : Same (fun x => ¬ S x) u u' := Below.toSame hb
  obtain ⟨x, hx⟩ := h.c1
  exact ⟨fun y => h.notS y.1, h.ge, hs.live h.notS h.live, hs.cell h.notS h.c0, x, hs.cell h.notS hx⟩

theorem HideAt.frame (h : HideAt w0 c most add D S E u) (hb : Below u.heap.size u u') : HideAt w0 c most add D (fun x => S x ∧ x < u.heap.size) E u' :=
  ⟨(CacheAt.tight0 h.cache).frame (Below.toSame hb), h.row, h.len, fun p hp => (h.vals p hp).frame hb, fun x hx => h.geS x hx.1, h.below.trans (hb.mono h.below.size)⟩

theorem BoxIn.frame (h : BoxIn bx op S u) (hb : Below u.heap.size u u') : BoxIn bx op (fun x => S x ∧ x < u.heap.size) u' :=
  ⟨Nat.lt_of_lt_of_le h.lt hb.size, fun x => h.notS x.1, h.box.below hb h.lt⟩

/-- Behind a call of the cache. -/
theorem HideAt.step (h : HideAt w0 c most add D S E u) (hl : D'.length ≤ most) (hv : ∀ p ∈ D', ListIn w0 S add p.1 p.2.blk u) (hC : ∃ E', CacheAt Try.prog 31 kdK kdL u' c (Grow S u) most E' ∧ E'.map kv = D') (hT : Turn S u u') : ∃ E', HideAt w0 c most add D' (Grow S u) E' u' := by
  obtain ⟨E', h1, h2⟩ := hC
  exact ⟨E', h1, h2, hl, fun p hp => (hv p hp).turn hT, fun x hx => hx.elim (h.geS x) (fun y => Nat.le_trans h.below.size y), h.below.trans (hT.below h.below.size (fun x hx hs => by have := h.geS x hs; omega))⟩

theorem hide_get (h : HideAt w0 c most add D S E u) (k : KeyV) : Calls Try.prog 37 #[.pointer (some ⟨c, 0, none⟩), .agg #[.string k.name.1, .int .i64 k.n.1]] u fun ex u' => ex = .returned (.tuple #[valD k D, .bool (Cc.look k D).isSome]) ∧ (∃ E', HideAt w0 c most add (hitD k D) (Grow S u) E' u') ∧ Turn S u u' := by
  have hn := h.nodup
  refine (getKv h.cache h.row k).mono ?_
  rintro ex u' ⟨rfl, h5, h6⟩
  refine ⟨rfl, h.step ?_ ?_ h5 h6, h6⟩
  · unfold hitD
    split
    · rename_i v hv
      obtain ⟨p, q, e1, e2⟩ := rmD_split hn hv
      have := h.len
      rw [e1] at this
      rw [e2]
      simp at this ⊢
      omega
    · exact h.len
  · intro p hp
    refine h.vals p ?_
    unfold hitD at hp
    split at hp
    · rename_i v hv
      rcases List.mem_cons.1 hp with rfl | hp
      · exact look_mem hv
      · exact (List.mem_filter.1 hp).1
    · exact hp

theorem hide_put (h : HideAt w0 c most add D S E u) (hg : ListIn w0 S add k g u) (hm : most ≤ 1048576) : Calls Try.prog 38 #[.pointer (some ⟨c, 0, none⟩), .agg #[.string k.name.1, .int .i64 k.n.1], .slice (some ⟨g, 0, none⟩) 2 2] u fun ex u' => ex = .returned (.tuple #[]) ∧ (∃ E', HideAt w0 c most add (putD most k ⟨g⟩ D) (Grow S u) E' u') ∧ Turn S u u' := by
  refine (putKv h.cache h.row k ⟨g⟩ (Nat.le_trans h.len hm) hm).mono ?_
  rintro ex u' ⟨rfl, h5, h6⟩
  refine ⟨rfl, h.step (length_putD h.len) ?_ h5 h6, h6⟩
  intro p hp
  rcases mem_putD hp with rfl | hp
  · exact hg
  · exact h.vals p hp

theorem hide_clear (h : HideAt w0 c most add D S E u) (add' : Int) : Calls Try.prog 36 #[.pointer (some ⟨c, 0, none⟩)] u fun ex u' => ex = .returned (.int .i64 D.length) ∧ ∃ E', HideAt w0 c most add' [] (Grow S u) E' u' := by
  refine (clearKv h.cache h.row).mono ?_
  rintro ex u' ⟨rfl, h5, h6⟩
  obtain ⟨E', H⟩ := h.step (D' := []) (Nat.zero_le _) (by simp) h5 h6
  exact ⟨rfl, E', { H with vals := by simp }⟩

theorem setCell_cell0 {g : Nat} {v x : Value} (hc : u.cell? ⟨g, 0, none⟩ = some x) : (u.setCell ⟨g, 1, none⟩ v).cell? ⟨g, 0, none⟩ = some x := (cell_set_other (w := u) (.inr (by omega))).trans hc

/-- Behind the writing of a list. -/
theorem HideAt.store (h : HideAt w0 c most add D S E u) (hS : ¬ S g) (hge : w0.heap.size ≤ g) (x : Int) (hl : ∃ y, u.cell? ⟨g, 1, none⟩ = some (.int .i64 y)) : HideAt w0 c most add D S E (u.setCell ⟨g, 1, none⟩ (.int .i64 x)) ∧ (∀ bx op, bx ≠ g → BoxIn bx op S u → BoxIn bx op S (u.setCell ⟨g, 1, none⟩ (.int .i64 x))) ∧
    (∀ k g', ListIn w0 S add k g' u → ListIn w0 S add k g' (u.setCell ⟨g, 1, none⟩ (.int .i64 x))) ∧ (u.setCell ⟨g, 1, none⟩ (.int .i64 x)).cell? ⟨g, 1, none⟩ = some (.int .i64 x) := by
  have hT : Turn (fun y => y = g) u (u.setCell ⟨g, 1, none⟩ (.int .i64 x)) := Turn.setCell (p := ⟨g, 1, none⟩) (Turn.refl (fun y => y = g) u) (.inl rfl) (.int .i64 x)
  have hL : ∀ k g', ListIn w0 S add k g' u → ListIn w0 S add k g' (u.setCell ⟨g, 1, none⟩ (.int .i64 x)) := by
    intro k g' hg
    obtain ⟨y, hy⟩ := hg.c1
    refine ⟨hg.notS, hg.ge, hg.live.setCell _ _, ?_, ?_⟩
    · exact (cell_set_other (w := u) (.inr (by omega))).trans hg.c0
    · by_cases e : g' = g
      · subst e
        exact ⟨x, cell_set_same (w := u) hy⟩
      · exact ⟨y, (cell_set_other (w := u) (.inl (Ne.symm e))).trans hy⟩
  refine ⟨⟨h.cache.frame (hT.same (fun y hy e => hS (e ▸ hy))), h.row, h.len, fun p hp => hL _ _ (h.vals p hp), h.geS, h.below.trans (hT.below h.below.size (fun y hy e => by omega))⟩, fun bx op hne hB => ⟨by have := hT.size; exact Nat.lt_of_lt_of_le hB.lt this, hB.notS, hB.box.same (hT.same (T := fun y => y ≠ g) (fun y hy e => hy e)) hne⟩, hL, ?_⟩
  obtain ⟨y, hy⟩ := hl
  exact cell_set_same (w := u) hy

theorem HideAt.drewN {n : Nat} (h : HideAt w0 c most add D S E u) : HideAt w0 c most add D S E (u.drewN n) :=
  ⟨CacheAt.drewN h.cache, h.row, h.len, fun p hp => by obtain ⟨x1, x2, x3, x4, x5⟩ := h.vals p hp; exact ⟨x1, x2, x3, x4, x5⟩, h.geS, below_drewN h.below⟩
theorem BoxIn.drewN {n : Nat} (h : BoxIn bx op S u) : BoxIn bx op S (u.drewN n) := by
  obtain ⟨x1, x2, x3⟩ := h
  obtain ⟨y0, y1, y2, y3, y4, y5⟩ := x3
  exact ⟨x1, x2, y0, y1, y2, y3, y4, y5⟩
theorem ListIn.drewN {n : Nat} (h : ListIn w0 S add k g u) : ListIn w0 S add k g (u.drewN n) := by
  obtain ⟨x1, x2, x3, x4, x5⟩ := h
  exact ⟨x1, x2, x3, x4, x5⟩

theorem HideAt.box (h : HideAt w0 c most add D S E u) {t : TypeId} (hW : u.alloc (.cells #[.int .i64 op.kind.1, .bool op.second, .string op.name.1, .int .i64 op.n.1, .int .i64 op.v.1, .int .i64 op.stop.1] t) = u') :
    ∃ S', HideAt w0 c most add D S' E u' ∧ BoxIn u.heap.size op S' u' ∧ ∀ p ∈ D, p.2.blk ≠ u.heap.size := by
  obtain ⟨hb, hs, ho⟩ := op_new u op hW
  exact ⟨_, h.frame hb, ⟨by omega, fun x => Nat.lt_irrefl _ x.2, ho⟩, fun p hp => by have := (h.vals p hp).live.lt; omega⟩

/-- A new list. -/
theorem HideAt.list (h : HideAt w0 c most add D S E u) (hB : BoxIn bx op S u) {t : TypeId} (k : KeyV) (hW : u.alloc (.cells #[.int .i64 (first add k), .int .i64 0] t) = u') :
    ∃ S', HideAt w0 c most add D S' E u' ∧ BoxIn bx op S' u' ∧ ListIn w0 S' add k u.heap.size u' ∧ bx ≠ u.heap.size := by
  obtain ⟨hb, hs, x0, x1⟩ := box2 u _ _ _ hW
  refine ⟨_, h.frame hb, hB.frame hb, ⟨fun x => Nat.lt_irrefl _ x.2, h.below.size, ?_, x0, 0, x1⟩, by have := hB.lt; omega⟩
  rw [← hW]
  exact ⟨_, _, (MapKept.heap_alloc u _).1⟩

theorem hide_start {w1 : World} (hb1 : Below w0.heap.size w0 w1) (hb2 : Below w1.heap.size w1 u) (hC : ∀ S : Nat → Prop, (∀ x, w1.heap.size ≤ x → S x) → CacheAt Try.prog 31 kdK kdL u w1.heap.size S most []) :
    HideAt w0 w1.heap.size most add [] (fun x => w1.heap.size ≤ x) [] u :=
  ⟨hC _ (fun _ h => h), rfl, Nat.zero_le _, by simp, fun x hx => Nat.le_trans hb1.size hx, hb1.trans (hb2.mono hb1.size)⟩
end
end Go.Proofs.Yteboancapfgdeaa.KL
