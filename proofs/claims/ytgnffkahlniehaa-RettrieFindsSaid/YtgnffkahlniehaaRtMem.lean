/- Plain: a trie's nodes in memory: they never turn; what is made is made anew. No program in sight. -/
import Derived.Test.YtgnffkahlniehaaTrAll
import Derived.Test.YtgnffkahlniehaaGsAll
import Derived.Test.YtgnffkahlniehaaTpAll
namespace Go.Proofs.Rt
open Go Go.RowKit Go.Proofs.Gs Go.Proofs.Tri

/-- A message as it is told: its payload's bytes as numbers. -/
structure MsgV where
  topic : ByteArray
  pay : List Int
  qos : Int
  ret : Bool

def payCells (l : List Int) : List Value := l.map (Value.int .u8)

/-- What is asked of a world that has turned elsewhere. -/
def Same (S : Nat → Prop) (w w' : World) : Prop := ∀ k, k < w.heap.size → S k → w'.heap[k]? = w.heap[k]?

theorem Same.below {S : Nat → Prop} {w w' : World} (h : Below w.heap.size w w') : Same S w w' := fun k hk _ => h.block k hk
theorem Same.cell {S : Nat → Prop} {w w' : World} (h : Same S w w') {b o : Nat} {u : Value} (hb : S b) (hc : w.cell? ⟨b, o, none⟩ = some u) : w'.cell? ⟨b, o, none⟩ = some u := by
  rw [← hc]
  exact World.cell?_of_block (w := w) (a := ⟨b, o, none⟩) (h b (World.block_lt_of_cell? w _ hc) hb)

/-- A row all of whose cells lie in blocks of F. -/
def RowF (F : Nat → Prop) (w : World) (k : Nat) (v : Value) (n : Nat) (xs : List Value) : Prop := RowAt w k v n xs ∧ ∀ b, v.ownBlock = some b → F b

theorem RowF.keep {F : Nat → Prop} {w w' : World} {k n : Nat} {v : Value} {xs : List Value} (h : RowF F w k v n xs) (hs : Same F w w') : RowF F w' k v n xs := by
  refine ⟨?_, h.2⟩
  obtain ⟨⟨h0, a, cap, h1, h2, h3, h4⟩, h5⟩ := h
  refine ⟨h0, a, cap, h1, h2, h3, ?_⟩
  rcases h4 with h4 | ⟨b, off, e, hb, hc⟩
  · exact .inl h4
  · by_cases hn : n = 0
    · exact .inl hn
    · have hF : F b := h5 b (by rw [h1, e]; rfl)
      refine .inr ⟨b, off, e, ?_, fun j u hu => hs.cell hF (hc j u hu)⟩
      have := hs b hb hF
      rcases Nat.lt_or_ge b w'.heap.size with hlt | hge
      · exact hlt
      · rw [Array.getElem?_eq_none hge, Array.getElem?_eq_getElem hb] at this; cases this

theorem RowF.mono {F F' : Nat → Prop} {w : World} {k n : Nat} {v : Value} {xs : List Value} (h : RowF F w k v n xs) (hF : ∀ b, F b → F' b) : RowF F' w k v n xs := ⟨h.1, fun b e => hF b (h.2 b e)⟩

structure MsgAt (F : Nat → Prop) (w : World) (b : Nat) (m : MsgV) : Prop where
  mem : F b
  c0 : w.cell? ⟨b, 0, none⟩ = some (.string m.topic)
  c1 : ∃ v, w.cell? ⟨b, 1, none⟩ = some v ∧ RowF F w 1 v m.pay.length (payCells m.pay)
  c2 : w.cell? ⟨b, 2, none⟩ = some (.int .i64 m.qos)
  c3 : w.cell? ⟨b, 3, none⟩ = some (.bool m.ret)

theorem cell_below {w w' : World} (hb : Below w.heap.size w w') {b o : Nat} {u : Value} (h : w.cell? ⟨b, o, none⟩ = some u) : w'.cell? ⟨b, o, none⟩ = some u :=
  (hb.cell (World.block_lt_of_cell? w _ h)).trans h

theorem MsgAt.keep {F : Nat → Prop} {w w' : World} {b : Nat} {m : MsgV} (h : MsgAt F w b m) (hs : Same F w w') : MsgAt F w' b m := by
  obtain ⟨v, h1, h2⟩ := h.c1
  exact ⟨h.mem, hs.cell h.mem h.c0, ⟨v, hs.cell h.mem h1, h2.keep hs⟩, hs.cell h.mem h.c2, hs.cell h.mem h.c3⟩
theorem MsgAt.below {F : Nat → Prop} {w w' : World} {b : Nat} {m : MsgV} (h : MsgAt F w b m) (hb : Below w.heap.size w w') : MsgAt F w' b m := h.keep (Same.below hb)
theorem MsgAt.mono {F F' : Nat → Prop} {w : World} {b : Nat} {m : MsgV} (h : MsgAt F w b m) (hF : ∀ b, F b → F' b) : MsgAt F' w b m := by
  obtain ⟨v, h1, h2⟩ := h.c1
  exact ⟨hF _ h.mem, h.c0, ⟨v, h1, h2.mono hF⟩, h.c2, h.c3⟩

def MsgPtr (F : Nat → Prop) (w : World) (mv : Value) : Option MsgV → Prop
  | none => mv = .pointer none
  | some m => ∃ b, mv = .pointer (some ⟨b, 0, none⟩) ∧ MsgAt F w b m

theorem MsgPtr.keep {F : Nat → Prop} {w w' : World} {mv : Value} {v : Option MsgV} (h : MsgPtr F w mv v) (hs : Same F w w') : MsgPtr F w' mv v := by
  cases v with
  | none => exact h
  | some m => obtain ⟨b, e, h⟩ := h; exact ⟨b, e, h.keep hs⟩
theorem MsgPtr.mono {F F' : Nat → Prop} {w : World} {mv : Value} {v : Option MsgV} (h : MsgPtr F w mv v) (hF : ∀ b, F b → F' b) : MsgPtr F' w mv v := by
  cases v with
  | none => exact h
  | some m => obtain ⟨b, e, h⟩ := h; exact ⟨b, e, h.mono hF⟩

def ptrV (b : Nat) : Value := .pointer (some ⟨b, 0, none⟩)
abbrev Tree := Tr ByteArray MsgV

/-- A slice of levels all of whose cells lie in blocks of F. -/
def StrsF (F : Nat → Prop) (w : World) (v : Value) (L : List ByteArray) : Prop := RowF F w 1 v L.length (L.map Value.string)
theorem StrsF.strs {F : Nat → Prop} {w : World} {v : Value} {L : List ByteArray} (h : StrsF F w v L) : Tp.StrsAt w v L := RowAt.strs h.1

inductive NodeAt (F : Nat → Prop) (w : World) : Nat → Tree → Prop
  | mk (p : Nat) (lv : List ByteArray) (v : Option MsgV) (ks : List Tree) (sv mv kv : Value) (bs : List Nat) (hp : F p)
    (c0 : w.cell? ⟨p, 0, none⟩ = some sv) (hs : StrsF F w sv lv) (c1 : w.cell? ⟨p, 1, none⟩ = some mv) (hm : MsgPtr F w mv v)
    (c2 : w.cell? ⟨p, 2, none⟩ = some kv) (hk : RowF F w 1 kv bs.length (bs.map ptrV)) (hl : bs.length = ks.length)
    (hn : ∀ (i b : Nat) (k : Tree), bs[i]? = some b → ks[i]? = some k → NodeAt F w b k) : NodeAt F w p (.node lv v ks)

/-- A node, opened. -/
structure Open (F : Nat → Prop) (w : World) (p : Nat) (t : Tree) (sv mv kv : Value) (bs : List Nat) : Prop where
  mem : F p
  c0 : w.cell? ⟨p, 0, none⟩ = some sv
  hsf : StrsF F w sv t.lv
  c1 : w.cell? ⟨p, 1, none⟩ = some mv
  hm : MsgPtr F w mv t.val
  c2 : w.cell? ⟨p, 2, none⟩ = some kv
  hkf : RowF F w 1 kv bs.length (bs.map ptrV)
  hl : bs.length = t.kids.length
  hn : ∀ (i b : Nat) (k : Tree), bs[i]? = some b → t.kids[i]? = some k → NodeAt F w b k

section
variable {F F' : Nat → Prop} {w w' : World}
theorem Open.hs {p : Nat} {t : Tree} {sv mv kv : Value} {bs : List Nat} (h : Open F w p t sv mv kv bs) : Tp.StrsAt w sv t.lv := h.hsf.strs
theorem Open.hk {p : Nat} {t : Tree} {sv mv kv : Value} {bs : List Nat} (h : Open F w p t sv mv kv bs) : RowAt w 1 kv bs.length (bs.map ptrV) := h.hkf.1

theorem NodeAt.open {p : Nat} {t : Tree} (h : NodeAt F w p t) : ∃ sv mv kv bs, Open F w p t sv mv kv bs := by
  cases h with
  | mk _ lv v ks sv mv kv bs hp c0 hs c1 hm c2 hk hl hn => exact ⟨sv, mv, kv, bs, hp, c0, hs, c1, hm, c2, hk, hl, hn⟩

theorem Open.shut {p : Nat} {t : Tree} {sv mv kv : Value} {bs : List Nat} (h : Open F w p t sv mv kv bs) : NodeAt F w p t := by
  cases t; exact .mk p _ _ _ sv mv kv bs h.mem h.c0 h.hsf h.c1 h.hm h.c2 h.hkf h.hl h.hn

theorem NodeAt.same (hb : Same F w w') : ∀ {t : Tree} {p : Nat}, NodeAt F w p t → NodeAt F w' p t := by
  intro t
  refine Tr.ind (P := fun t => ∀ {p : Nat}, NodeAt F w p t → NodeAt F w' p t) (fun lv v ks ih p h => ?_) t
  cases h with
  | mk _ _ _ _ sv mv kv bs hp c0 hs c1 hm c2 hk hl hn =>
    exact .mk p lv v ks sv mv kv bs hp (hb.cell hp c0) (RowF.keep hs hb) (hb.cell hp c1) (hm.keep hb) (hb.cell hp c2) (hk.keep hb) hl (fun i b k h1 h2 => ih k (List.mem_of_getElem? h2) (hn i b k h1 h2))

theorem NodeAt.mono (hF : ∀ b, F b → F' b) : ∀ {t : Tree} {p : Nat}, NodeAt F w p t → NodeAt F' w p t := by
  intro t
  refine Tr.ind (P := fun t => ∀ {p : Nat}, NodeAt F w p t → NodeAt F' w p t) (fun lv v ks ih p h => ?_) t
  cases h with
  | mk _ _ _ _ sv mv kv bs hp c0 hs c1 hm c2 hk hl hn =>
    exact .mk p lv v ks sv mv kv bs (hF _ hp) c0 (RowF.mono hs hF) c1 (hm.mono hF) c2 (hk.mono hF) hl (fun i b k h1 h2 => ih k (List.mem_of_getElem? h2) (hn i b k h1 h2))

theorem NodeAt.keep (hb : Below w.heap.size w w') {t : Tree} {p : Nat} (h : NodeAt F w p t) : NodeAt F w' p t := NodeAt.same (Same.below hb) h

theorem Open.same {p : Nat} {t : Tree} {sv mv kv : Value} {bs : List Nat} (h : Open F w p t sv mv kv bs) (hb : Same F w w') : Open F w' p t sv mv kv bs :=
  ⟨h.mem, hb.cell h.mem h.c0, RowF.keep h.hsf hb, hb.cell h.mem h.c1, h.hm.keep hb, hb.cell h.mem h.c2, h.hkf.keep hb, h.hl, fun i b k h1 h2 => NodeAt.same hb (h.hn i b k h1 h2)⟩
theorem Open.below {p : Nat} {t : Tree} {sv mv kv : Value} {bs : List Nat} (h : Open F w p t sv mv kv bs) (hb : Below w.heap.size w w') : Open F w' p t sv mv kv bs := h.same (Same.below hb)
theorem Open.mono {p : Nat} {t : Tree} {sv mv kv : Value} {bs : List Nat} (h : Open F w p t sv mv kv bs) (hF : ∀ b, F b → F' b) : Open F' w p t sv mv kv bs :=
  ⟨hF _ h.mem, h.c0, RowF.mono h.hsf hF, h.c1, h.hm.mono hF, h.c2, h.hkf.mono hF, h.hl, fun i b k h1 h2 => NodeAt.mono hF (h.hn i b k h1 h2)⟩

/-- A new node, laid down. -/
theorem node_new {t : Tree} {sv mv kv : Value} {bs : List Nat} {ty : TypeId} (h : w.alloc (.cells #[sv, mv, kv] ty) = w') (hp : F w.heap.size) (hs : StrsF F w sv t.lv) (hm : MsgPtr F w mv t.val) (hk : RowF F w 1 kv bs.length (bs.map ptrV)) (hl : bs.length = t.kids.length)
    (hn : ∀ (i b : Nat) (k : Tree), bs[i]? = some b → t.kids[i]? = some k → NodeAt F w b k) : NodeAt F w' w.heap.size t ∧ Below w.heap.size w w' ∧ w'.heap.size = w.heap.size + 1 := by
  subst h
  have g0 := (MapKept.heap_alloc w (.cells #[sv, mv, kv] ty)).1
  have hb : Below w.heap.size w (w.alloc (.cells #[sv, mv, kv] ty)) := (Below.refl _ w).alloc (Nat.le_refl _) _
  have hsm : Same F w (w.alloc (.cells #[sv, mv, kv] ty)) := Same.below hb
  refine ⟨Open.shut (sv := sv) (mv := mv) (kv := kv) (bs := bs) ⟨hp, ?_, RowF.keep hs hsm, ?_, hm.keep hsm, ?_, hk.keep hsm, hl, fun i b k h1 h2 => NodeAt.keep hb (hn i b k h1 h2)⟩, hb, by simp⟩ <;> (unfold World.cell?; simp only; rw [g0]; rfl)
end

/-! ### The order of levels -/
def ltB (x y : ByteArray) : Bool := decide (Tp.cmpB x y = -1)

theorem ltB_iff {x y : ByteArray} : ltB x y = true ↔ Tp.cmpB x y = -1 := by unfold ltB; simp
theorem cmpB_three (x y : ByteArray) : Tp.cmpB x y = -1 ∨ Tp.cmpB x y = 0 ∨ Tp.cmpB x y = 1 := by unfold Tp.cmpB; split; (exact .inl rfl); split; (exact .inr (.inr rfl)); exact .inr (.inl rfl)

theorem linB : Lin ltB where
  irr := fun a => by
    cases h : ltB a a with
    | false => rfl
    | true =>
      have h1 := ltB_iff.1 h
      have h2 := (Tp.cmpB_zero a a).2 rfl
      omega
  trans := fun a b c h1 h2 => ltB_iff.2 (Tp.cmpB_trans (ltB_iff.1 h1) (ltB_iff.1 h2))
  tri := fun a b h1 h2 => by
    have r := Tp.cmpB_rev a b
    have n1 : Tp.cmpB a b ≠ -1 := fun e => by rw [ltB_iff.2 e] at h1; exact absurd h1 (by simp)
    have n2 : Tp.cmpB b a ≠ -1 := fun e => by rw [ltB_iff.2 e] at h2; exact absurd h2 (by simp)
    have := cmpB_three a b
    exact (Tp.cmpB_zero a b).1 (by omega)

/-! ### How much there is -/
structure Lim (t : Tree) : Prop where
  count : (body t).length ≤ 1000000
  long : ∀ e ∈ body t, e.1.length ≤ 1000000001

theorem Lim.kid {t k : Tree} (h : Lim t) (hk : k ∈ t.kids) : Lim k ∧ ∀ e ∈ ents k, e.1.length ≤ 1000000001 := by
  have hsub : ∀ e ∈ ents k, e ∈ body t := fun e he => List.mem_append_right _ (entsL_mem.2 ⟨k, hk, he⟩)
  have hl : (ents k).length ≤ (body t).length := by
    obtain ⟨a, b, hab⟩ := List.append_of_mem hk
    unfold body
    rw [hab, entsL_app, entsL_cons]
    simp only [List.length_append]
    omega
  have hle : ∀ e ∈ ents k, e.1.length ≤ 1000000001 := fun e he => h.long e (hsub e he)
  refine ⟨⟨?_, fun e he => ?_⟩, hle⟩
  · rw [ents_body, pre_length] at hl
    have := h.count
    omega
  · have := hle (k.lv ++ e.1, e.2) (by rw [ents_body]; exact List.mem_map.2 ⟨e, he, rfl⟩)
    rw [List.length_append] at this
    omega

theorem Lim.lv {t k : Tree} (h : Lim t) (hf : Forest ltB t.kids) (hk : k ∈ t.kids) : k.lv.length ≤ 1000000001 := by
  obtain ⟨e, he⟩ := List.exists_mem_of_ne_nil _ (hf.ok k hk).ents_ne
  have h1 := (h.kid hk).2 e he
  obtain ⟨r, hr⟩ := ents_lv he
  rw [← hr, List.length_append] at h1
  omega

theorem entsL_many : ∀ {ks : List Tree}, Forest ltB ks → ks.length ≤ (entsL ks).length
  | [], _ => by simp
  | k :: ks, h => by
    obtain ⟨f1, f2, _⟩ := Forest.app (a := [k]) (b := ks) h
    have h1 := entsL_many f2
    have h2 : 0 < (ents k).length := List.length_pos_iff.2 (f1.ok k (by simp)).ents_ne
    rw [entsL_cons, List.length_append, List.length_cons]
    omega

theorem Lim.kids {t : Tree} (h : Lim t) (hf : Forest ltB t.kids) : t.kids.length ≤ 1000000 := by
  have h1 := entsL_many hf
  have h2 := h.count
  unfold body at h2
  rw [List.length_append] at h2
  omega

/-- Where a level stands: by place. -/
theorem place_iff {p : ByteArray} {ks : List Tree} (h : Forest ltB ks) {i : Nat} {k : Tree} (hk : ks[i]? = some k) : ∃ x xs, k.lv = x :: xs ∧ (ltB x p = true ↔ i < place ltB p ks) := by
  obtain ⟨h1, h2⟩ := place_split linB p h
  obtain ⟨hi, hg⟩ := List.getElem?_eq_some_iff.1 hk
  by_cases hlt : i < place ltB p ks
  · have hm : k ∈ ks.take (place ltB p ks) := by
      rw [List.mem_iff_getElem?]
      exact ⟨i, by rw [List.getElem?_take, if_pos hlt, hk]⟩
    obtain ⟨x, xs, e, hl⟩ := h1 k hm
    exact ⟨x, xs, e, by simp [hl, hlt]⟩
  · have hm : k ∈ ks.drop (place ltB p ks) := by
      rw [List.mem_iff_getElem?]
      exact ⟨i - place ltB p ks, by rw [List.getElem?_drop, show place ltB p ks + (i - place ltB p ks) = i by omega, hk]⟩
    obtain ⟨x, xs, e, hl⟩ := h2 k hm
    exact ⟨x, xs, e, by simp [hl, hlt]⟩

theorem place_le (p : ByteArray) (ks : List Tree) : place ltB p ks ≤ ks.length := List.countP_le_length
end Go.Proofs.Rt
