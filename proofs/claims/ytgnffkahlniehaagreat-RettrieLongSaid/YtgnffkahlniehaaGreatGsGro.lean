/- Plain: a row that grows by append, its elements of k cells each, whatever lies behind them. No program in sight. -/
import Derived.Test.YtgnffkahlniehaaGreatRtBase
import Derived.Maps.AppendAt
import Derived.Deep.AppendSrc
namespace Go.Proofs.Gs
open Go Go.RowKit Go.Proofs.Rt

/-- What is asked of an element's reading. -/
structure Elt {α : Type} (k : Nat) (El : (Nat → Prop) → World → List Value → α → Prop) : Prop where
  len : ∀ {F w cs a}, El F w cs a → cs.length = k
  one : ∀ {F w cs a}, El F w cs a → ∀ u ∈ cs, u.oneCell' = true
  keep : ∀ {F w w' cs a}, El F w cs a → Same F w w' → El F w' cs a
  mono : ∀ {F F' w cs a}, El F w cs a → (∀ b, F b → F' b) → El F' w cs a

section
variable {α : Type} {k : Nat} {El : (Nat → Prop) → World → List Value → α → Prop}

/-- Elements that lie behind one another, read. -/
structure Els (El : (Nat → Prop) → World → List Value → α → Prop) (F : Nat → Prop) (w : World) (css : List (List Value)) (xs : List α) : Prop where
  len : css.length = xs.length
  el : ∀ (i : Nat) (cs : List Value) (a : α), css[i]? = some cs → xs[i]? = some a → El F w cs a

theorem Els.nil {F : Nat → Prop} {w : World} : Els El F w [] [] := ⟨rfl, fun i cs a h _ => by simp at h⟩
theorem Els.keep (K : Elt k El) {F : Nat → Prop} {w w' : World} {css : List (List Value)} {xs : List α} (h : Els El F w css xs) (hs : Same F w w') : Els El F w' css xs := ⟨h.len, fun i cs a h1 h2 => K.keep (h.el i cs a h1 h2) hs⟩
theorem Els.mono (K : Elt k El) {F F' : Nat → Prop} {w : World} {css : List (List Value)} {xs : List α} (h : Els El F w css xs) (hs : ∀ b, F b → F' b) : Els El F' w css xs := ⟨h.len, fun i cs a h1 h2 => K.mono (h.el i cs a h1 h2) hs⟩
theorem Els.app {F : Nat → Prop} {w : World} {css css2 : List (List Value)} {xs xs2 : List α} (h : Els El F w css xs) (h2 : Els El F w css2 xs2) : Els El F w (css ++ css2) (xs ++ xs2) := by
  refine ⟨by rw [List.length_append, List.length_append, h.len, h2.len], fun i cs a g1 g2 => ?_⟩
  by_cases hi : i < css.length
  · rw [List.getElem?_append_left hi] at g1
    rw [List.getElem?_append_left (by rw [← h.len]; exact hi)] at g2
    exact h.el i cs a g1 g2
  · rw [List.getElem?_append_right (by omega)] at g1
    rw [List.getElem?_append_right (by rw [← h.len]; omega), ← h.len] at g2
    exact h2.el _ cs a g1 g2
theorem Els.one {F : Nat → Prop} {w : World} {cs : List Value} {a : α} (h : El F w cs a) : Els El F w [cs] [a] := by
  refine ⟨rfl, fun i cs' a' g1 g2 => ?_⟩
  cases i with
  | zero => injection g1 with g1; injection g2 with g2; subst g1; subst g2; exact h
  | succ i => simp at g1
theorem Els.cells (K : Elt k El) {F : Nat → Prop} {w : World} : ∀ {css : List (List Value)} {xs : List α}, Els El F w css xs → css.flatten.length = xs.length * k ∧ ∀ u ∈ css.flatten, u.oneCell' = true
  | [], [], _ => ⟨by simp, by simp⟩
  | [], a :: xs, h => by have := h.len; simp at this
  | cs :: css, [], h => by have := h.len; simp at this
  | cs :: css, a :: xs, h => by
    have h0 := h.el 0 cs a rfl rfl
    have hr : Els El F w css xs := ⟨by have := h.len; simpa using this, fun i c x g1 g2 => h.el (i + 1) c x (by simpa using g1) (by simpa using g2)⟩
    obtain ⟨e1, e2⟩ := Els.cells K hr
    refine ⟨?_, fun u hu => ?_⟩
    · rw [List.flatten_cons, List.length_append, e1, K.len h0, List.length_cons, Nat.add_mul, Nat.one_mul, Nat.add_comm]
    · rw [List.flatten_cons, List.mem_append] at hu
      rcases hu with hu | hu
      · exact K.one h0 u hu
      · exact e2 u hu

theorem Els.uncons {F : Nat → Prop} {w : World} {css : List (List Value)} {a : α} {xs : List α} (h : Els El F w css (a :: xs)) : ∃ cs rest, css = cs :: rest ∧ El F w cs a ∧ Els El F w rest xs := by
  cases css with
  | nil => have := h.len; simp at this
  | cons cs rest => exact ⟨cs, rest, rfl, h.el 0 cs a rfl rfl, by have := h.len; simpa using this, fun i c x g1 g2 => h.el (i + 1) c x (by simpa using g1) (by simpa using g2)⟩
theorem Els.cons {F : Nat → Prop} {w : World} {cs : List Value} {css : List (List Value)} {a : α} {xs : List α} (h : El F w cs a) (h2 : Els El F w css xs) : Els El F w (cs :: css) (a :: xs) := (Els.one h).app h2
theorem Els.part {F : Nat → Prop} {w : World} {css : List (List Value)} {xs : List α} (h : Els El F w css xs) (i m : Nat) : Els El F w ((css.drop i).take m) ((xs.drop i).take m) := by
  refine ⟨by rw [List.length_take, List.length_take, List.length_drop, List.length_drop, h.len], fun j cs a g1 g2 => ?_⟩
  by_cases hj : j < m
  · rw [List.getElem?_take_of_lt hj, List.getElem?_drop] at g1 g2
    exact h.el _ cs a g1 g2
  · rw [List.getElem?_eq_none (by rw [List.length_take]; omega)] at g1
    cases g1
theorem flat_get : ∀ {css : List (List Value)} {i o : Nat} {cs : List Value} {u : Value}, (∀ c ∈ css, c.length = k) → css[i]? = some cs → cs[o]? = some u → css.flatten[i * k + o]? = some u
  | [], i, o, cs, u, _, h, _ => by simp at h
  | c :: css, 0, o, cs, u, hk, h, h2 => by
    injection h with h
    subst h
    rw [Nat.zero_mul, Nat.zero_add, List.flatten_cons, List.getElem?_append_left (List.getElem?_eq_some_iff.1 h2).1]
    exact h2
  | c :: css, i + 1, o, cs, u, hk, h, h2 => by
    have hc := hk c (by simp)
    rw [List.flatten_cons, Nat.add_mul, Nat.one_mul, List.getElem?_append_right (by omega), hc, show i * k + k + o - k = i * k + o by omega]
    exact flat_get (fun x hx => hk x (by simp [hx])) (by simpa using h) h2
theorem Els.all (K : Elt k El) {F : Nat → Prop} {w : World} {css : List (List Value)} {xs : List α} (h : Els El F w css xs) : ∀ c ∈ css, c.length = k := by
  intro c hc
  obtain ⟨i, hi⟩ := List.mem_iff_getElem?.1 hc
  have hl := (List.getElem?_eq_some_iff.1 hi).1
  obtain ⟨a, ha⟩ : ∃ a, xs[i]? = some a := ⟨_, List.getElem?_eq_getElem (by rw [← h.len]; exact hl)⟩
  exact K.len (h.el i c a hi ha)

/-- A row that is read. -/
def Reads (k : Nat) (El : (Nat → Prop) → World → List Value → α → Prop) (F : Nat → Prop) (w : World) (v : Value) (xs : List α) : Prop :=
  ∃ css, Els El F w css xs ∧ RowAt w k v xs.length css.flatten

/-- A row of the call's own that grows; what lies behind its elements lies in F, out of the row. -/
structure Gro (Z : Nat) (E : TypeId) (k : Nat) (El : (Nat → Prop) → World → List Value → α → Prop) (F : Nat → Prop) (w : World) (v : Value) (xs : List α) : Prop where
  own : ∃ css, Els El F w css xs ∧ w.ownsRow Z E k v xs.length css.flatten
  out : ∀ b, F b → b < w.heap.size ∧ some b ≠ v.ownBlock

theorem Gro.nil (Z : Nat) (E : TypeId) (F : Nat → Prop) (w : World) (hF : ∀ b, F b → b < w.heap.size) : Gro Z E k El F w (.slice none 0 0) [] :=
  ⟨⟨[], Els.nil, World.ownsRow_nil _ _ _ _⟩, fun b h => ⟨hF b h, by simp [Value.ownBlock]⟩⟩

theorem Gro.slice {Z : Nat} {E : TypeId} {F : Nat → Prop} {w : World} {v : Value} {xs : List α} (h : Gro Z E k El F w v xs) : ∃ a cap, v = .slice a xs.length cap := by
  obtain ⟨css, _, h2⟩ := h.own
  obtain ⟨_, a, cap, e, _⟩ := RowAt.of_owns h2
  exact ⟨a, cap, e⟩
theorem Gro.bound {Z : Nat} {E : TypeId} {F : Nat → Prop} {w : World} {v : Value} {xs : List α} (h : Gro Z E k El F w v xs) {b : Nat} (hb : v.ownBlock = some b) : Z ≤ b ∧ b < w.heap.size := by
  obtain ⟨css, _, h2⟩ := h.own
  rcases h2.2 with ⟨rfl, _⟩ | ⟨g, cap, cur, rfl, h1, h3, _⟩
  · simp [Value.ownBlock] at hb
  · simp [Value.ownBlock] at hb
    subst hb
    exact ⟨h1, (Array.getElem?_eq_some_iff.1 h3).1⟩
theorem Gro.keep (K : Elt k El) {Z : Nat} {E : TypeId} {F : Nat → Prop} {w w' : World} {v : Value} {xs : List α} (h : Gro Z E k El F w v xs) (hs : ∀ b, b < w.heap.size → (F b ∨ some b = v.ownBlock) → w'.heap[b]? = w.heap[b]?) (hsz : w.heap.size ≤ w'.heap.size) : Gro Z E k El F w' v xs := by
  obtain ⟨css, h1, h2, h3⟩ := h.own
  refine ⟨⟨css, h1.keep K (fun b hb hF => hs b hb (.inl hF)), h2, ?_⟩, fun b hF => ⟨by have := (h.out b hF).1; omega, (h.out b hF).2⟩⟩
  rcases h3 with h3 | ⟨g, cap, cur, e, q1, q2, q3⟩
  · exact .inl h3
  · exact .inr ⟨g, cap, cur, e, q1, (hs g (Array.getElem?_eq_some_iff.1 q2).1 (.inr (by rw [e]; rfl))).trans q2, q3⟩
theorem Gro.below (K : Elt k El) {Z : Nat} {E : TypeId} {F : Nat → Prop} {w w' : World} {v : Value} {xs : List α} (h : Gro Z E k El F w v xs) (hb : Below w.heap.size w w') : Gro Z E k El F w' v xs :=
  h.keep K (fun b hlt _ => hb.block b hlt) hb.size
theorem Gro.mono (K : Elt k El) {Z : Nat} {E : TypeId} {F F' : Nat → Prop} {w : World} {v : Value} {xs : List α} (h : Gro Z E k El F w v xs) (hF : ∀ b, F b → F' b) (ho : ∀ b, F' b → b < w.heap.size ∧ some b ≠ v.ownBlock) : Gro Z E k El F' w v xs := by
  obtain ⟨css, h1, h2⟩ := h.own
  exact ⟨⟨css, h1.mono K hF, h2⟩, ho⟩
theorem Gro.reads (K : Elt k El) {Z : Nat} {E : TypeId} {F F' : Nat → Prop} {w : World} {v : Value} {xs : List α} (h : Gro Z E k El F w v xs) (hF : ∀ b, F b → F' b) : Reads k El F' w v xs := by
  obtain ⟨css, h1, h2⟩ := h.own
  exact ⟨css, h1.mono K hF, RowAt.of_owns h2⟩

theorem Reads.slice {F : Nat → Prop} {w : World} {v : Value} {xs : List α} (h : Reads k El F w v xs) : ∃ a cap, v = .slice a xs.length cap ∧ xs.length ≤ cap ∧ cap ≤ 9223372036854775807 := by
  obtain ⟨_, _, _, a, cap, e, h1, h2, _⟩ := h
  exact ⟨a, cap, e, h1, h2⟩
theorem Reads.keep (K : Elt k El) {F : Nat → Prop} {w w' : World} {v : Value} {xs : List α} (h : Reads k El F w v xs) (hs : Same (fun b => F b ∨ v.ownBlock = some b) w w') : Reads k El F w' v xs := by
  obtain ⟨css, h1, h2⟩ := h
  have h3 := RowF.keep (F := fun b => v.ownBlock = some b) ⟨h2, fun b e => e⟩ (w' := w') (fun b hb e => hs b hb (.inr e))
  exact ⟨css, h1.keep K (fun b hb e => hs b hb (.inl e)), h3.1⟩
theorem Reads.below (K : Elt k El) {F : Nat → Prop} {w w' : World} {v : Value} {xs : List α} (h : Reads k El F w v xs) (hb : Below w.heap.size w w') : Reads k El F w' v xs := h.keep K (fun b hlt _ => hb.block b hlt)
theorem Reads.mono (K : Elt k El) {F F' : Nat → Prop} {w : World} {v : Value} {xs : List α} (h : Reads k El F w v xs) (hF : ∀ b, F b → F' b) : Reads k El F' w v xs := by
  obtain ⟨css, h1, h2⟩ := h
  exact ⟨css, h1.mono K hF, h2⟩
theorem reads_empty {F : Nat → Prop} {w : World} {a : Option Addr} {c : Nat} (hc : c ≤ 9223372036854775807) : Reads k El F w (.slice a 0 c) [] := ⟨[], Els.nil, by simp, a, c, rfl, Nat.zero_le _, hc, .inl rfl⟩

/-- An element of a row. -/
theorem Reads.one (K : Elt k El) {F : Nat → Prop} {w : World} {b off n cap : Nat} {xs : List α} (h : Reads k El F w (.slice (some ⟨b, off, none⟩) n cap) xs) {i : Nat} {a : α} (ha : xs[i]? = some a) :
    ∃ cs, El F w cs a ∧ ∀ o u, cs[o]? = some u → w.cell? ⟨b, off + (i * k + o), none⟩ = some u := by
  obtain ⟨css, h1, h2⟩ := h
  have hi := (List.getElem?_eq_some_iff.1 ha).1
  obtain ⟨cs, hcs⟩ : ∃ cs, css[i]? = some cs := ⟨_, List.getElem?_eq_getElem (by rw [h1.len]; exact hi)⟩
  rcases RowAt.cases h2 with ⟨h0, _⟩ | ⟨_, b', off', cap', e, _, _, _, hc⟩
  · omega
  · injection e with e1 e2 e3
    injection e1 with e1
    injection e1 with e1 e4
    subst e1; subst e4
    exact ⟨cs, h1.el i cs a hcs ha, fun o u ho => hc _ u (flat_get (h1.all K) hcs ho)⟩

/-- A part of a row. -/
theorem Reads.part (K : Elt k El) (hk : 0 < k) {F : Nat → Prop} {w : World} {b off n cap : Nat} {xs : List α} (h : Reads k El F w (.slice (some ⟨b, off, none⟩) n cap) xs) {i m : Nat} (hm : i + m ≤ xs.length) :
    Reads k El F w (.slice (some ⟨b, off + i * k, none⟩) m (cap - i)) ((xs.drop i).take m) := by
  obtain ⟨css, h1, h2⟩ := h
  have hl : ((xs.drop i).take m).length = m := by rw [List.length_take, List.length_drop]; omega
  have hp := h1.part i m
  have hfl := (Els.cells K hp).1
  obtain ⟨_, a', c', e', hcap, hmax, _⟩ := id h2
  injection e' with e1 e2 e3
  subst e3
  refine ⟨_, hp, hfl, _, cap - i, by rw [hl], by omega, by omega, ?_⟩
  rw [hl] at hfl ⊢
  rcases RowAt.cases h2 with ⟨h0, _⟩ | ⟨_, b', off', cap', e, _, _, q3, hc⟩
  · exact .inl (by omega)
  · injection e with e1 e2 e3
    injection e1 with e1
    injection e1 with e1 e4
    subst e1; subst e4
    refine .inr ⟨b, _, rfl, q3, fun j u hu => ?_⟩
    have hj := (List.getElem?_eq_some_iff.1 hu).1
    rw [hfl] at hj
    have hdm : j / k * k + j % k = j := by rw [Nat.mul_comm]; exact Nat.div_add_mod j k
    have ho : j % k < k := Nat.mod_lt _ hk
    have hpm : j / k < m := by rw [Nat.div_lt_iff_lt_mul hk]; exact hj
    obtain ⟨p, hpe⟩ : ∃ p, j / k = p := ⟨_, rfl⟩
    obtain ⟨o, hoe⟩ : ∃ o, j % k = o := ⟨_, rfl⟩
    rw [hpe, hoe] at hdm
    rw [hoe] at ho
    rw [hpe] at hpm
    subst hdm
    obtain ⟨cs, hcs⟩ : ∃ cs, css[i + p]? = some cs := ⟨_, List.getElem?_eq_getElem (by rw [h1.len]; omega)⟩
    have hcl := h1.all K cs (List.mem_of_getElem? hcs)
    obtain ⟨u', hu'⟩ : ∃ u', cs[o]? = some u' := ⟨_, List.getElem?_eq_getElem (by omega)⟩
    have h3 := flat_get (hp.all K) (show ((css.drop i).take m)[p]? = some cs by rw [List.getElem?_take_of_lt hpm, List.getElem?_drop]; exact hcs) hu'
    rw [hu] at h3
    injection h3 with h3
    subst h3
    have h4 := hc _ u (flat_get (h1.all K) hcs hu')
    rw [show off + i * k + (p * k + o) = off + ((i + p) * k + o) by rw [Nat.add_mul]; omega]
    exact h4

/-- A part of a row, cut. -/
theorem Reads.cut (K : Elt k El) (hk : 0 < k) {F : Nat → Prop} {w : World} {a : Option Addr} {n cap : Nat} {xs : List α} (h : Reads k El F w (.slice a n cap) xs) {i m : Nat} (hm : i + m ≤ xs.length) :
    Reads k El F w (.slice (if cap = i then a else a.map (·.add (i * k))) m (cap - i)) ((xs.drop i).take m) := by
  obtain ⟨css, h1, h2⟩ := id h
  obtain ⟨_, a', c', e', hcap, hmax, hrow⟩ := id h2
  injection e' with e1 e2 e3
  subst e1; subst e2; subst e3
  unfold maxLen at hmax
  by_cases hm0 : m = 0
  · subst hm0
    rw [List.take_zero]
    exact reads_empty (by omega)
  · rcases hrow with h0 | ⟨b, off, rfl, _, _⟩
    · omega
    · rw [if_neg (by omega), Option.map_some, Addr.add_lit]
      exact h.part K hk hm
theorem cut_block {a : Option Addr} {i x n c n' c' : Nat} : (Value.slice (if c = i then a else a.map (·.add x)) n' c').ownBlock = (Value.slice a n c).ownBlock := by
  cases a with
  | none => split <;> rfl
  | some a => split <;> simp [Value.ownBlock, Addr.add]; split <;> rfl

/-- A new row of one. -/
theorem reads_one (K : Elt k El) {F : Nat → Prop} {w : World} {cs : List Value} {a : α} (h : El F w cs a) (hF : ∀ b, F b → b < w.heap.size) (E : TypeId) : Reads k El F (w.alloc (.cells cs.toArray E)) (.slice (some ⟨w.heap.size, 0, none⟩) 1 1) [a] := by
  have hk := K.len h
  refine ⟨[cs], Els.one (K.keep h (fun b hb _ => Below.heap_alloc w _ b hb)), by simp [hk], _, 1, rfl, Nat.le_refl _, by unfold maxLen; omega, .inr ⟨w.heap.size, 0, rfl, by simp, fun j u hu => ?_⟩⟩
  have hh := (MapKept.heap_alloc w (.cells cs.toArray E)).1
  unfold World.cell?
  simp only
  rw [hh, Nat.zero_add]
  simpa using hu

/-- append, of a row that is read. -/
theorem gro_app (K : Elt k El) {P : Program} {w : World} {Z : Nat} {E t : TypeId} {F G : Nat → Prop} {v v2 : Value} {xs bs : List α} (i : TypeInfo) (z : Value) (bytes : Nat) (ht : P.underlying t = some (.slice E)) (hi : P.info? E = some i) (hz : i.zero = some z) (hsize : i.size = k) (hby : i.bytes = bytes) (hzs : z.cells.size = k) (hk : 0 < k)
    (h : Gro Z E k El F w v xs) (h2 : Reads k El G w v2 bs) (hG : ∀ b, G b → b < w.heap.size ∧ some b ≠ v.ownBlock) (h63 : xs.length + bs.length ≤ maxLen) (hbytes : (xs.length + bs.length) * bytes ≤ 140737488355328) (hZ : Z ≤ w.heap.size) :
    ∃ v' w', (∀ ty, (Builtin.append_ #[t, t] ty #[v, v2]).run P w = .ok v' w') ∧ Gro Z E k El (fun b => F b ∨ G b) w' v' (xs ++ bs) ∧ w.grownBy w' v.ownBlock ∧ (v'.ownBlock = v.ownBlock ∨ v'.ownBlock = some w.heap.size) := by
  obtain ⟨css, e1, o1⟩ := h.own
  obtain ⟨css2, e2, r2⟩ := h2
  obtain ⟨c1, c2⟩ := Els.cells K e2
  have fin : ∀ (v' : Value) (w' : World), w'.ownsRow Z E k v' (xs.length + bs.length) (css.flatten ++ css2.flatten) → w.grownBy w' v.ownBlock → (v'.ownBlock = v.ownBlock ∨ v'.ownBlock = some w.heap.size) → Gro Z E k El (fun b => F b ∨ G b) w' v' (xs ++ bs) := fun v' w' q1 q2 q3 => by
    have hsame : Same (fun b => F b ∨ G b) w w' := fun b hb hF => q2.block b hb (by rcases hF with hF | hF; exact (h.out b hF).2; exact (hG b hF).2)
    refine ⟨⟨css ++ css2, ((e1.mono K (fun b hb => .inl hb)).app (e2.mono K (fun b hb => .inr hb))).keep K hsame, by rw [List.flatten_append, List.length_append]; exact q1⟩, fun b hb => ?_⟩
    have hlt : b < w.heap.size ∧ some b ≠ v.ownBlock := by rcases hb with hb | hb; exact h.out b hb; exact hG b hb
    refine ⟨Nat.lt_of_lt_of_le hlt.1 q2.size, fun e => ?_⟩
    rcases q3 with q3 | q3
    · exact hlt.2 (e.trans q3)
    · have := e.trans q3
      injection this with this
      omega
  rcases RowAt.cases r2 with ⟨h0, hx, a, c, rfl, _⟩ | ⟨hpos, b, off, cap, rfl, q1, q2, q3, hc⟩
  · have hbs : bs = [] := List.eq_nil_of_length_eq_zero h0
    subst hbs
    have hcss : css2 = [] := List.eq_nil_of_length_eq_zero (by have := e2.len; simpa using this)
    subst hcss
    refine ⟨v, w, fun ty => ?_, by have := fin v w (by simpa using o1) ⟨rfl, rfl, rfl, Nat.le_refl _, fun _ _ _ => rfl⟩ (.inl rfl); exact this, ⟨rfl, rfl, rfl, Nat.le_refl _, fun _ _ _ => rfl⟩, .inl rfl⟩
    have hf : (Builtin.firstCells i.size 0 (.slice a 0 c)).run P w = .ok (#[] : Array Value) w := by
      cases a with
      | none => exact run_firstCells_none w i.size 0 0 c
      | some a => exact run_firstCells_some w i.size 0 a 0 c [] (by simp) (by simp)
    rcases o1.2 with ⟨rfl, _⟩ | ⟨g, cap, cur, rfl, _, hg, hnc, _⟩
    · simp [Builtin.append_, run_underlying ht, sizeOf, typeInfo, zeroValue, hi, hz, Builtin.lenOf, hf]
    · have hs : Src P i.size t (.slice a 0 c) 0 [] w := by
        refine ⟨.inl ⟨E, ht⟩, fun _ => rfl, by simpa using hf, ?_, by simp, by simp⟩
        cases a with
        | none => exact run_firstCells_none w.drew i.size 0 0 c
        | some a => exact run_firstCells_some w.drew i.size 0 a 0 c [] (by simp) (by simp)
      have hr := run_append_room_src (P := P) w t t ty E i ht hi g 0 xs.length cap (.slice a 0 c) 0 [] hs (by omega) (by simp) (by simp)
      simpa [World.setCells] using hr
  · have hnews : ∀ (j : Nat) (u : Value), css2.flatten[j]? = some u → w.cell? ((⟨b, off, none⟩ : Addr).add j) = some u := fun j u hu => by
      rw [Addr.add_lit]
      exact hc j u hu
    have hrun := fun ty => run_append_own_at (P := P) w Z t ty E i z k bytes ht hi hz hsize hby hzs hk v xs.length css.flatten o1 ⟨b, off, none⟩ bs.length cap css2.flatten c1 hnews c2 h63 hbytes hZ
    obtain ⟨v', w', hr0, p1, p2, _, p4⟩ := hrun t
    refine ⟨v', w', fun ty => ?_, fin v' w' p1 p2 p4, p2, p4⟩
    exact hr0

/-- What lies out of a row that grows: what was there, and what is new. -/
def Out (X : Nat → Prop) (Z : Nat) (w : World) (v : Value) : Nat → Prop := fun b => X b ∨ (Z ≤ b ∧ b < w.heap.size ∧ some b ≠ v.ownBlock)

theorem Gro.start (K : Elt k El) {Z : Nat} {E : TypeId} {X : Nat → Prop} {w : World} (hX : ∀ b, X b → b < w.heap.size) : Gro Z E k El (Out X Z w (.slice none 0 0)) w (.slice none 0 0) [] :=
  Gro.nil Z E _ w (fun b hb => by rcases hb with hb | hb; exact hX b hb; exact hb.2.1)
theorem out_apart {Z : Nat} {E : TypeId} {F X : Nat → Prop} {w : World} {v : Value} {xs : List α} (h : Gro Z E k El F w v xs) (hX : ∀ b, X b → b < Z) (hZ : Z ≤ w.heap.size) : ∀ b, Out X Z w v b → b < w.heap.size ∧ some b ≠ v.ownBlock := by
  rintro b (hb | ⟨_, h2, h3⟩)
  · have := hX b hb
    exact ⟨by omega, fun e => by have := (h.bound e.symm).1; omega⟩
  · exact ⟨h2, h3⟩
theorem Gro.move (K : Elt k El) {Z : Nat} {E : TypeId} {X : Nat → Prop} {w w' : World} {v : Value} {xs : List α} (h : Gro Z E k El (Out X Z w v) w v xs) (hX : ∀ b, X b → b < Z) (hZ : Z ≤ w.heap.size) (hb : Below w.heap.size w w') : Gro Z E k El (Out X Z w' v) w' v xs := by
  have h2 := h.below K hb
  have hs := hb.size
  exact h2.mono K (fun b hb' => by rcases hb' with hb' | hb'; exact .inl hb'; exact .inr ⟨hb'.1, by omega, hb'.2.2⟩) (out_apart h2 hX (by omega))
/-- What a call has made lies out of the row. -/
theorem fresh_out {Z : Nat} {E : TypeId} {F X : Nat → Prop} {w w' : World} {v : Value} {xs : List α} (h : Gro Z E k El F w v xs) (hZ : Z ≤ w.heap.size) : ∀ b, (w.heap.size ≤ b ∧ b < w'.heap.size) → Out X Z w' v b :=
  fun b hb => .inr ⟨by omega, hb.2, fun e => by have := (h.bound e.symm).2; omega⟩

theorem gro_many (K : Elt k El) {P : Program} {w : World} {Z : Nat} {E t : TypeId} {X : Nat → Prop} {v v2 : Value} {xs bs : List α} (i : TypeInfo) (z : Value) (bytes : Nat) (ht : P.underlying t = some (.slice E)) (hi : P.info? E = some i) (hz : i.zero = some z) (hsize : i.size = k) (hby : i.bytes = bytes) (hzs : z.cells.size = k) (hk : 0 < k)
    (hX : ∀ b, X b → b < Z) (hZ : Z ≤ w.heap.size) (h : Gro Z E k El (Out X Z w v) w v xs) (h2 : Reads k El (Out X Z w v) w v2 bs) (h63 : xs.length + bs.length ≤ maxLen) (hbytes : (xs.length + bs.length) * bytes ≤ 140737488355328) :
    ∃ v' w', (∀ ty, (Builtin.append_ #[t, t] ty #[v, v2]).run P w = .ok v' w') ∧ Gro Z E k El (Out X Z w' v') w' v' (xs ++ bs) ∧ Below Z w w' := by
  have ho := out_apart h hX hZ
  obtain ⟨v', w', h1, h3, h4, h5⟩ := gro_app K i z bytes ht hi hz hsize hby hzs hk h h2 ho h63 hbytes hZ
  have hs := h4.size
  refine ⟨v', w', h1, h3.mono K (fun b hb => ?_) (out_apart h3 hX (by omega)), (Below.refl Z w).grown h4 hZ (fun b e => (h.bound e).1)⟩
  have hb' : Out X Z w v b := by rcases hb with hb | hb <;> exact hb
  rcases hb' with hb' | hb'
  · exact .inl hb'
  · refine .inr ⟨hb'.1, by omega, fun e => ?_⟩
    rcases h5 with h5 | h5
    · exact hb'.2.2 (e.trans h5)
    · have := e.trans h5
      injection this with this
      omega
theorem gro_one (K : Elt k El) {P : Program} {w w3 : World} {Z : Nat} {E t : TypeId} {X : Nat → Prop} {v : Value} {xs : List α} {a : α} {cs : List Value} (i : TypeInfo) (z : Value) (bytes : Nat) (ht : P.underlying t = some (.slice E)) (hi : P.info? E = some i) (hz : i.zero = some z) (hsize : i.size = k) (hby : i.bytes = bytes) (hzs : z.cells.size = k) (hk : 0 < k)
    (hX : ∀ b, X b → b < Z) (hZ : Z ≤ w.heap.size) (h : Gro Z E k El (Out X Z w v) w v xs) (hb : Below w.heap.size w w3) (hel : El (Out X Z w3 v) w3 cs a) (h63 : xs.length + 1 ≤ maxLen) (hbytes : (xs.length + 1) * bytes ≤ 140737488355328) :
    ∃ v' w', (∀ ty, (Builtin.append_ #[t, t] ty #[v, .slice (some ⟨w3.heap.size, 0, none⟩) 1 1]).run P (w3.alloc (.cells cs.toArray E)) = .ok v' w') ∧ Gro Z E k El (Out X Z w' v') w' v' (xs ++ [a]) ∧ Below Z w w' ∧ w3.heap.size < w'.heap.size := by
  have hs := hb.size
  have hb4 : Below w.heap.size w (w3.alloc (.cells cs.toArray E)) := hb.alloc hs _
  have h4 := h.move K hX hZ hb4
  have hs4 : (w3.alloc (.cells cs.toArray E)).heap.size = w3.heap.size + 1 := by simp
  have ho := out_apart (h.move K hX hZ hb) hX (by omega)
  have hr := reads_one K hel (fun b hb => (ho b hb).1) E
  have hr2 : Reads k El (Out X Z (w3.alloc (.cells cs.toArray E)) v) (w3.alloc (.cells cs.toArray E)) (.slice (some ⟨w3.heap.size, 0, none⟩) 1 1) [a] := hr.mono K (fun b hb => by rcases hb with hb | hb; exact .inl hb; exact .inr ⟨hb.1, by omega, hb.2.2⟩)
  obtain ⟨v', w', q1, q2, q3⟩ := gro_many K i z bytes ht hi hz hsize hby hzs hk hX (by omega) h4 hr2 (by simpa using h63) (by simpa using hbytes)
  exact ⟨v', w', q1, q2, (hb4.mono hZ).trans q3, by have := q3.size; omega⟩

/-! ### Rows of texts -/
def ElStr (_F : Nat → Prop) (_w : World) (cs : List Value) (s : ByteArray) : Prop := cs = [.string s]
theorem eltStr : Elt 1 ElStr where
  len := by rintro F w cs a rfl; rfl
  one := by rintro F w cs a rfl u hu; simp at hu; subst hu; rfl
  keep := by rintro F w w' cs a rfl _; rfl
  mono := by rintro F F' w cs a rfl _; rfl
theorem els_strs {F : Nat → Prop} {w : World} : ∀ {L : List ByteArray} {css : List (List Value)}, Els ElStr F w css L → css.flatten = L.map Value.string
  | [], css, h => by have := h.len; rw [List.eq_nil_of_length_eq_zero (l := css) (by simpa using this)]; rfl
  | s :: L, css, h => by
    obtain ⟨cs, rest, rfl, rfl, hr⟩ := h.uncons
    rw [List.flatten_cons, els_strs hr]
    rfl
theorem strs_els {F : Nat → Prop} {w : World} : ∀ {L : List ByteArray}, ∃ css, Els ElStr F w css L ∧ css.flatten = L.map Value.string
  | [] => ⟨[], Els.nil, rfl⟩
  | s :: L => by
    obtain ⟨css, e1, e2⟩ := strs_els (F := F) (w := w) (L := L)
    exact ⟨[.string s] :: css, Els.cons rfl e1, by rw [List.flatten_cons, e2]; rfl⟩
theorem strs_reads {F G : Nat → Prop} {w : World} {v : Value} {L : List ByteArray} (h : StrsF F w v L) : Reads 1 ElStr G w v L := by
  obtain ⟨css, e1, e2⟩ := strs_els (F := G) (w := w) (L := L)
  exact ⟨css, e1, by rw [e2]; exact h.1⟩
theorem reads_strs {F G : Nat → Prop} {w : World} {v : Value} {L : List ByteArray} (h : Reads 1 ElStr G w v L) (hF : ∀ b, v.ownBlock = some b → F b) : StrsF F w v L := by
  obtain ⟨css, e1, e2⟩ := h
  exact ⟨by rw [← els_strs e1]; exact e2, hF⟩
end
end Go.Proofs.Gs
