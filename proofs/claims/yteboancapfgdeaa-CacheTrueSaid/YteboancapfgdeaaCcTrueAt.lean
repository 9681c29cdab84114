/- What CacheTrue holds between two calls. -/
import Derived.Test.YteboancapfgdeaaCcKIKv
import Derived.Test.YteboancapfgdeaaCcOthers
import Derived.Test.YteboancapfgdeaaCcScript
namespace Go.Proofs.Yteboancapfgdeaa
open Go.RowKit Go.WideShapes Go.Proofs.Cc

structure MemAt (w0 : World) (c mb : Nat) (vU : Value) (most : Nat) (D : List (KeyV × I64)) (F : KeyV → Option I64) (Us : List (KeyV × Int)) (j : Nat) (S : Nat → Prop) (E : List (Ent KeyV I64)) (u : World) : Prop where
  cache : CacheAt Try.prog 31 kdK kdI u c S most E
  row : E.map kv = D
  laid : ∃ n, n ≤ j ∧ LaidAt u mb n F
  uses : UsesAt u w0.heap.size vU Us
  few : Us.length ≤ j
  notB : ¬ S mb
  geB : w0.heap.size ≤ mb
  ltB : mb < u.heap.size
  notU : ∀ g, vU.ownBlock = some g → ¬ S g ∧ g ≠ mb
  geS : ∀ x, S x → w0.heap.size ≤ x
  below : Below w0.heap.size w0 u

/-- A call's own block: no step of the cache, the map or the row touches it. -/
structure BoxIn (bx : Nat) (op : OpV) (S : Nat → Prop) (mb : Nat) (vU : Value) (u : World) : Prop where
  lt : bx < u.heap.size
  notS : ¬ S bx
  neB : bx ≠ mb
  notU : vU.ownBlock ≠ some bx
  box : OpAt u bx 0 op

theorem OpAt.same {T : Nat → Prop} {u u' : World} {bx off : Nat} {op : OpV} (h : OpAt u bx off op) (hs : Same T u u') (hb : T bx) : OpAt u' bx off op :=
  ⟨hs.cell hb h.c0, hs.cell hb h.c1, hs.cell hb h.c2, hs.cell hb h.c3, hs.cell hb h.c4, hs.cell hb h.c5⟩

section
variable {w0 u u' : World} {bx : Nat} {op : OpV} {c mb : Nat} {vU : Value} {most : Nat} {D D' : List (KeyV × I64)} {F F' : KeyV → Option I64} {Us : List (KeyV × Int)} {j : Nat} {S : Nat → Prop} {E : List (Ent KeyV I64)}

theorem MemAt.frame (h : MemAt w0 c mb vU most D F Us j S E u) (hb : Below u.heap.size u u') : MemAt w0 c mb vU most D F Us j (fun x => S x ∧ x < u.heap.size) E u' := by
  obtain ⟨n, hn, hl⟩ := h.laid
  exact ⟨(CacheAt.tight0 h.cache).frame (Below.toSame hb), h.row, ⟨n, hn, hl.frame (Below.toSame hb (S := fun _ => True)) trivial⟩, ownsRow_same h.uses (Below.toSame hb (S := fun _ => True)) (fun _ _ => trivial), h.few, fun x => h.notB x.1, h.geB, Nat.lt_of_lt_of_le h.ltB hb.size,
    fun g e => ⟨fun x => (h.notU g e).1 x.1, (h.notU g e).2⟩, fun x hx => h.geS x hx.1, h.below.trans (hb.mono h.below.size)⟩

theorem MemAt.more (h : MemAt w0 c mb vU most D F Us j S E u) {k : Nat} (hk : j ≤ k) : MemAt w0 c mb vU most D F Us k S E u := by
  obtain ⟨n, hn, hl⟩ := h.laid
  exact { h with laid := ⟨n, Nat.le_trans hn hk, hl⟩, few := Nat.le_trans h.few hk }

/-- Behind a call of the cache. -/
theorem MemAt.step (h : MemAt w0 c mb vU most D F Us j S E u) (hC : ∃ E', CacheAt Try.prog 31 kdK kdI u' c (Grow S u) most E' ∧ E'.map kv = D') (hT : Turn S u u') : ∃ S' E', MemAt w0 c mb vU most D' F Us j S' E' u' ∧ ∀ bx op, BoxIn bx op S mb vU u → BoxIn bx op S' mb vU u' := by
  obtain ⟨E', h1, h2⟩ := hC
  obtain ⟨n, hn, hl⟩ := h.laid
  refine ⟨_, E', ⟨h1, h2, ⟨n, hn, hl.frame (hT.same (T := fun x => x = mb) (fun x hx hs => h.notB (hx ▸ hs))) rfl⟩, ownsRow_same h.uses (hT.same (T := fun x => ¬ S x) (fun x hx hs => hx hs)) (fun g e => (h.notU g e).1), h.few, ?_, h.geB, Nat.lt_of_lt_of_le h.ltB hT.size, ?_, ?_, ?_⟩, fun bx op hB => ⟨Nat.lt_of_lt_of_le hB.lt hT.size, fun x => x.elim hB.notS (fun y => by have := hB.lt; omega), hB.neB, hB.notU, hB.box.same (hT.same (T := fun x => ¬ S x) (fun x hx hs => hx hs)) hB.notS⟩⟩
  · intro x
    rcases x with x | x
    · exact h.notB x
    · have := h.ltB; omega
  · intro g e
    have hlt := (UsesAt.lt' h.uses e)
    exact ⟨fun x => x.elim (h.notU g e).1 (fun y => by omega), (h.notU g e).2⟩
  · intro x hx
    exact hx.elim (h.geS x) (fun y => Nat.le_trans h.below.size y)
  · exact h.below.trans (hT.below h.below.size (fun x hx hs => by have := h.geS x hs; omega))
where
  UsesAt.lt' {w : World} {base g : Nat} {v : Value} {U : List (KeyV × Int)} (h : UsesAt w base v U) (e : v.ownBlock = some g) : g < w.heap.size := (World.ownsRow.lt h g e).2

theorem mem_get (h : MemAt w0 c mb vU most D F Us j S E u) (k : KeyV) : Calls Try.prog 29 #[.pointer (some ⟨c, 0, none⟩), .agg #[.string k.name.1, .int .i64 k.n.1]] u fun ex u' => ex = .returned (.tuple #[.int .i64 (KI.numD k D), .bool (Cc.look k D).isSome]) ∧ ∃ S' E', MemAt w0 c mb vU most (KI.hitD k D) F Us j S' E' u' ∧ ∀ bx op, BoxIn bx op S mb vU u → BoxIn bx op S' mb vU u' := by
  refine (KI.getKv h.cache h.row k).mono ?_
  rintro ex u' ⟨rfl, h5, h6⟩
  exact ⟨rfl, h.step h5 h6⟩

theorem mem_put (h : MemAt w0 c mb vU most D F Us j S E u) (k : KeyV) (v : I64) (hl : D.length ≤ 1048576) (hm : most ≤ 1048576) : Calls Try.prog 31 #[.pointer (some ⟨c, 0, none⟩), .agg #[.string k.name.1, .int .i64 k.n.1], .int .i64 v.1] u fun ex u' => ex = .returned (.tuple #[]) ∧ ∃ S' E', MemAt w0 c mb vU most (putD most k v D) F Us j S' E' u' ∧ ∀ bx op, BoxIn bx op S mb vU u → BoxIn bx op S' mb vU u' := by
  refine (KI.putKv h.cache h.row k v hl hm).mono ?_
  rintro ex u' ⟨rfl, h5, h6⟩
  exact ⟨rfl, h.step h5 h6⟩

theorem mem_drop (h : MemAt w0 c mb vU most D F Us j S E u) (k : KeyV) : Calls Try.prog 32 #[.pointer (some ⟨c, 0, none⟩), .agg #[.string k.name.1, .int .i64 k.n.1]] u fun ex u' => ex = .returned (.bool (decide (k ∈ D.map (·.1)))) ∧ ∃ S' E', MemAt w0 c mb vU most (rmD k D) F Us j S' E' u' ∧ ∀ bx op, BoxIn bx op S mb vU u → BoxIn bx op S' mb vU u' := by
  refine (KI.dropKv h.cache h.row k).mono ?_
  rintro ex u' ⟨rfl, h5, h6⟩
  exact ⟨rfl, h.step h5 h6⟩

theorem mem_clear (h : MemAt w0 c mb vU most D F Us j S E u) : Calls Try.prog 33 #[.pointer (some ⟨c, 0, none⟩)] u fun ex u' => ex = .returned (.int .i64 D.length) ∧ ∃ S' E', MemAt w0 c mb vU most [] F Us j S' E' u' ∧ ∀ bx op, BoxIn bx op S mb vU u → BoxIn bx op S' mb vU u' := by
  refine (KI.clearKv h.cache h.row).mono ?_
  rintro ex u' ⟨rfl, h5, h6⟩
  exact ⟨rfl, h.step h5 h6⟩

theorem mem_len (h : MemAt w0 c mb vU most D F Us j S E u) : Calls Try.prog 34 #[.pointer (some ⟨c, 0, none⟩)] u fun ex u' => ex = .returned (.int .i64 D.length) ∧ u' = u := KI.lenKv h.cache h.row

/-- Behind a turn of the map. -/
theorem MemAt.map (h : MemAt w0 c mb vU most D F Us j S E u) (ht : u.mapTurned u' mb) (hl : ∃ n, n ≤ j ∧ LaidAt u' mb n F') : MemAt w0 c mb vU most D F' Us j S E u' ∧ ∀ bx op, BoxIn bx op S mb vU u → BoxIn bx op S mb vU u' := by
  have hg := ht.grown
  have hT : Turn (fun x => x = mb) u u' := (Turn.refl _ u).grown hg (fun g e => by injection e with e; exact .inl e.symm)
  refine ⟨⟨h.cache.frame (hT.same (fun x hx e => h.notB (e ▸ hx))), h.row, hl, ownsRow_same h.uses (hT.same (T := fun x => x ≠ mb) (fun x hx e => hx e)) (fun g e => (h.notU g e).2), h.few, h.notB, h.geB, Nat.lt_of_lt_of_le h.ltB hT.size, h.notU, h.geS, h.below.trans (hT.below h.below.size (fun x hx e => by have := h.geB; omega))⟩, fun bx op hB => ⟨Nat.lt_of_lt_of_le hB.lt hT.size, hB.notS, hB.neB, hB.notU, hB.box.same (hT.same (T := fun x => x ≠ mb) (fun x hx e => hx e)) hB.neB⟩⟩

/-- Behind an append to the uses. -/
theorem MemAt.use (h : MemAt w0 c mb vU most D F Us j S E u) {ob : Obj} {vU' : Value} {k : KeyV} {i : Int} (hlj : Us.length < j) (hg : (u.alloc ob).grownBy u' vU.ownBlock) (hown : u'.ownsRow w0.heap.size 77 3 vU' (Us.length + 1) (urow Us ++ [.string k.name.1, .int .i64 k.n.1, .int .i64 i])) (hob : vU'.ownBlock = vU.ownBlock ∨ vU'.ownBlock = some (u.heap.size + 1)) :
    MemAt w0 c mb vU' most D F (Us ++ [(k, i)]) j (fun x => S x ∧ x < u.heap.size) E u' ∧ ∀ bx op, BoxIn bx op S mb vU u → BoxIn bx op (fun x => S x ∧ x < u.heap.size) mb vU' u' := by
  have hlt : ∀ g, vU.ownBlock = some g → w0.heap.size ≤ g ∧ g < u.heap.size := fun g e => World.ownsRow.lt h.uses g e
  have hT : Turn (fun x => vU.ownBlock = some x) u u' := ((Turn.refl _ u).alloc ob).grown hg (fun g e => .inl e)
  obtain ⟨n, hn, hl⟩ := h.laid
  refine ⟨⟨(CacheAt.tight0 h.cache).frame (hT.same (fun x hx e => (h.notU x e).1 hx.1)), h.row, ⟨n, hn, hl.frame (hT.same (T := fun x => x = mb) (fun x hx e => (h.notU x e).2 hx)) rfl⟩, ?_, ?_, fun x => h.notB x.1, h.geB, Nat.lt_of_lt_of_le h.ltB hT.size, ?_, fun x hx => h.geS x hx.1, ?_⟩, fun bx op hB => ⟨Nat.lt_of_lt_of_le hB.lt hT.size, fun x => hB.notS x.1, hB.neB, ?_, hB.box.same (hT.same (T := fun x => vU.ownBlock ≠ some x) (fun x hx e => hx e)) hB.notU⟩⟩
  · unfold UsesAt
    rw [List.length_append, show urow (Us ++ [(k, i)]) = urow Us ++ [.string k.name.1, .int .i64 k.n.1, .int .i64 i] from by simp [urow]]
    exact hown
  · simp
    omega
  · intro g e
    rcases hob with e' | e'
    · have := h.notU g (e'.symm.trans e)
      exact ⟨fun x => this.1 x.1, this.2⟩
    · rw [e'] at e
      injection e with e
      have := h.ltB
      exact ⟨fun x => by omega, by omega⟩
  · exact h.below.trans (hT.below h.below.size (fun x hx e => by have := hlt x e; omega))
  · intro e
    rcases hob with e' | e'
    · exact hB.notU (e'.symm.trans e)
    · rw [e'] at e
      injection e with e
      have := hB.lt
      omega

/-- A call's own block, new. -/
theorem MemAt.box (h : MemAt w0 c mb vU most D F Us j S E u) {t : TypeId} (hW : u.alloc (.cells #[.int .i64 op.kind.1, .bool op.second, .string op.name.1, .int .i64 op.n.1, .int .i64 op.v.1, .int .i64 op.stop.1] t) = u') :
    ∃ S', MemAt w0 c mb vU most D F Us j S' E u' ∧ BoxIn u.heap.size op S' mb vU u' := by
  obtain ⟨hb, hs, ho⟩ := op_new u op hW
  exact ⟨_, h.frame hb, by omega, fun x => Nat.lt_irrefl _ x.2, fun e => by have := h.ltB; omega, fun e => Nat.lt_irrefl _ (World.ownsRow.lt h.uses _ e).2, ho⟩

theorem MemAt.nouse (h : MemAt w0 c mb vU most D F Us j S E u) : MemAt w0 c mb (.slice none 0 0) most D F [] j S E u :=
  { h with uses := World.ownsRow_nil _ _ _ _, few := Nat.zero_le _, notU := fun g e => (by cases e) }

theorem mem_start {w1 : World} {most : Nat} (hb1 : Below w0.heap.size w0 w1) (hb2 : Below w1.heap.size w1 u) (hC : ∀ S : Nat → Prop, (∀ x, w1.heap.size ≤ x → S x) → CacheAt Try.prog 31 kdK kdI u w1.heap.size S most []) :
    ∃ S, MemAt w0 w1.heap.size u.heap.size (.slice none 0 0) most [] (fun _ => none) [] 0 S [] (u.alloc (.map #[] 0)) := by
  have h := (CacheAt.tight0 (hC (fun x => w1.heap.size ≤ x) (fun _ h => h))).frame (Below.toSame ((Below.refl u.heap.size u).alloc (Nat.le_refl _) (.map #[] 0)))
  have s1 := hb1.size
  have s2 := hb2.size
  exact ⟨_, h, rfl, ⟨0, Nat.le_refl _, LaidAt.new u⟩, World.ownsRow_nil _ _ _ _, Nat.le_refl _, fun x => Nat.lt_irrefl _ x.2, by omega, by simp, fun g e => (by cases e), fun x hx => Nat.le_trans s1 hx.1, (hb1.trans (hb2.mono s1)).alloc (by omega) _⟩

theorem BoxIn.frame (h : BoxIn bx op S mb vU u) {u' : World} (hb : Below u.heap.size u u') : BoxIn bx op (fun x => S x ∧ x < u.heap.size) mb vU u' :=
  ⟨Nat.lt_of_lt_of_le h.lt hb.size, fun x => h.notS x.1, h.neB, h.notU, h.box.below hb h.lt⟩
end

theorem split_look {D : List (KeyV × I64)} {k : KeyV} {v : I64} (hn : (D.map (·.1)).Nodup) (h : Cc.look k D = some v) : ∃ p q, D = p ++ (k, v) :: q ∧ KI.hitD k D = (k, v) :: (p ++ q) := by
  unfold KI.hitD
  rw [h]
  unfold Cc.look at h
  obtain ⟨⟨k', v'⟩, h1, h2⟩ := Option.map_eq_some_iff.1 h
  have hm := List.mem_of_find?_eq_some h1
  have hk : k' = k := by simpa using List.find?_some h1
  subst hk
  obtain rfl : v' = v := h2
  obtain ⟨p, q, rfl⟩ := List.append_of_mem hm
  refine ⟨p, q, rfl, ?_⟩
  rw [List.map_append, List.map_cons] at hn
  have hn2 := List.nodup_append.1 hn
  have hn3 := List.nodup_cons.1 hn2.2.1
  unfold rmD
  rw [List.filter_append, List.filter_cons]
  simp only [ne_eq, not_true_eq_false, decide_false, Bool.false_eq_true, ↓reduceIte]
  rw [List.filter_eq_self.2, List.filter_eq_self.2]
  · intro a ha
    have : a.1 ≠ k' := fun e => hn3.1 (by rw [← e]; exact List.mem_map_of_mem (f := (·.1)) ha)
    simpa using this
  · intro a ha
    have : a.1 ≠ k' := fun e => hn2.2.2 a.1 (List.mem_map_of_mem ha) k' (by simp) e
    simpa using this

theorem look_not {D : List (KeyV × I64)} {k : KeyV} (h : Cc.look k D = none) : k ∉ D.map (·.1) := by
  unfold Cc.look at h
  rw [Option.map_eq_none_iff, List.find?_eq_none] at h
  intro hm
  obtain ⟨p, hp, e⟩ := List.mem_map.1 hm
  exact h p hp (by simpa using e)
end Go.Proofs.Yteboancapfgdeaa
