/- Plain: a trie's nodes in memory: they never turn; what is made is made anew. No program in sight. -/
import Derived.Test.YtgnffkahlniehaaGreatTrAll
import Derived.Test.YtgnffkahlniehaaGreatGsAll
import Derived.Test.YtgnffkahlniehaaGreatTpAll
import Derived.WalkKit
import Derived.BigQuiet
import Derived.Deep.DeepCutAuto
import Derived.Deep.QuietTactic
import Derived.IntWalk
import Derived.Lib.Hide
import Derived.Outline
namespace Go.Proofs.Rt
open Go Go.RowKit Go.Proofs.Gs Go.Proofs.Tri

/-- A message as it is told: its payload's bytes as numbers. -/
structure MsgV where
  topic : ByteArray
  pay : List Int
  qos : Int
  ret : Bool

def payCells (l : List Int) : List Value := l.map (Value.int .u8)

/-- What is asked of a world that has turned elsewhere. -/
def Same (S : Nat → Prop) (w w' : World) : Prop := ∀ k, k < w.heap.size → S k → w'.heap[k]? = w.heap[k]?

theorem Same.below {S : Nat → Prop} {w w' : World} (h : Below w.heap.size w w') : Same S w w' := fun k hk _ => h.block k hk
theorem Same.cell {S : Nat → Prop} {w w' : World} (h : Same S w w') {b o : Nat} {u : Value} (hb : S b) (hc : w.cell? ⟨b, o, none⟩ = some u) : w'.cell? ⟨b, o, none⟩ = some u := by
  rw [← hc]
  exact World.cell?_of_block (w := w) (a := ⟨b, o, none⟩) (h b (World.block_lt_of_cell? w _ hc) hb)

/-- A row all of whose cells lie in blocks of F. -/
def RowF (F : Nat → Prop) (w : World) (k : Nat) (v : Value) (n : Nat) (xs : List Value) : Prop := RowAt w k v n xs ∧ ∀ b, v.ownBlock = some b → F b

theorem RowF.keep {F : Nat → Prop} {w w' : World} {k n : Nat} {v : Value} {xs : List Value} (h : RowF F w k v n xs) (hs : Same F w w') : RowF F w' k v n xs := by
  refine ⟨?_, h.2⟩
  obtain ⟨⟨h0, a, cap, h1, h2, h3, h4⟩, h5⟩ := h
  refine ⟨h0, a, cap, h1, h2, h3, ?_⟩
  rcases h4 with h4 | ⟨b, off, e, hb, hc⟩
  · exact .inl h4
  · by_cases hn : n = 0
    · exact .inl hn
    · have hF : F b := h5 b (by rw [h1, e]; rfl)
      refine .inr ⟨b, off, e, ?_, fun j u hu => hs.cell hF (hc j u hu)⟩
      have := hs b hb hF
      rcases Nat.lt_or_ge b w'.heap.size with hlt | hge
      · exact hlt
      · rw [Array.getElem?_eq_none hge, Array.getElem?_eq_getElem hb] at this; cases this

theorem RowF.mono {F F' : Nat → Prop} {w : World} {k n : Nat} {v : Value} {xs : List Value} (h : RowF F w k v n xs) (hF : ∀ b, F b → F' b) : RowF F' w k v n xs := ⟨h.1, fun b e => hF b (h.2 b e)⟩

structure MsgAt (F : Nat → Prop) (w : World) (b : Nat) (m : MsgV) : Prop where
  mem : F b
  c0 : w.cell? ⟨b, 0, none⟩ = some (.string m.topic)
  c1 : ∃ v, w.cell? ⟨b, 1, none⟩ = some v ∧ RowF F w 1 v m.pay.length (payCells m.pay)
  c2 : w.cell? ⟨b, 2, none⟩ = some (.int .i64 m.qos)
  c3 : w.cell? ⟨b, 3, none⟩ = some (.bool m.ret)

theorem cell_below {w w' : World} (hb : Below w.heap.size w w') {b o : Nat} {u : Value} (h : w.cell? ⟨b, o, none⟩ = some u) : w'.cell? ⟨b, o, none⟩ = some u :=
  (hb.cell (World.block_lt_of_cell? w _ h)).trans h

theorem MsgAt.keep {F : Nat → Prop} {w w' : World} {b : Nat} {m : MsgV} (h : MsgAt F w b m) (hs : Same F w w') : MsgAt F w' b m := by
  obtain ⟨v, h1, h2⟩ := h.c1
  exact ⟨h.mem, hs.cell h.mem h.c0, ⟨v, hs.cell h.mem h1, h2.keep hs⟩, hs.cell h.mem h.c2, hs.cell h.mem h.c3⟩
theorem MsgAt.below {F : Nat → Prop} {w w' : World} {b : Nat} {m : MsgV} (h : MsgAt F w b m) (hb : Below w.heap.size w w') : MsgAt F w' b m := h.keep (Same.below hb)
theorem MsgAt.mono {F F' : Nat → Prop} {w : World} {b : Nat} {m : MsgV} (h : MsgAt F w b m) (hF : ∀ b, F b → F' b) : MsgAt F' w b m := by
  obtain ⟨v, h1, h2⟩ := h.c1
  exact ⟨hF _ h.mem, h.c0, ⟨v, h1, h2.mono hF⟩, h.c2, h.c3⟩

def MsgPtr (F : Nat → Prop) (w : World) (mv : Value) : Option MsgV → Prop
  | none => mv = .pointer none
  | some m => ∃ b, mv = .pointer (some ⟨b, 0, none⟩) ∧ MsgAt F w b m

theorem MsgPtr.keep {F : Nat → Prop} {w w' : World} {mv : Value} {v : Option MsgV} (h : MsgPtr F w mv v) (hs : Same F w w') : MsgPtr F w' mv v := by
  cases v with
  | none => exact h
  | some m => obtain ⟨b, e, h⟩ := h; exact ⟨b, e, h.keep hs⟩
theorem MsgPtr.mono {F F' : Nat → Prop} {w : World} {mv : Value} {v : Option MsgV} (h : MsgPtr F w mv v) (hF : ∀ b, F b → F' b) : MsgPtr F' w mv v := by
  cases v with
  | none => exact h
  | some m => obtain ⟨b, e, h⟩ := h; exact ⟨b, e, h.mono hF⟩

def ptrV (b : Nat) : Value := .pointer (some ⟨b, 0, none⟩)
abbrev Tree := Tr ByteArray MsgV

/-- A slice of levels all of whose cells lie in blocks of F. -/
def StrsF (F : Nat → Prop) (w : World) (v : Value) (L : List ByteArray) : Prop := RowF F w 1 v L.length (L.map Value.string)
theorem StrsF.strs {F : Nat → Prop} {w : World} {v : Value} {L : List ByteArray} (h : StrsF F w v L) : Tp.StrsAt w v L := RowAt.strs h.1

inductive NodeAt (F : Nat → Prop) (w : World) : Nat → Tree → Prop
  | mk (p : Nat) (lv : List ByteArray) (v : Option MsgV) (ks : List Tree) (sv mv kv : Value) (bs : List Nat) (hp : F p)
    (c0 : w.cell? ⟨p, 0, none⟩ = some sv) (hs : StrsF F w sv lv) (c1 : w.cell? ⟨p, 1, none⟩ = some mv) (hm : MsgPtr F w mv v)
    (c2 : w.cell? ⟨p, 2, none⟩ = some kv) (hk : RowF F w 1 kv bs.length (bs.map ptrV)) (hl : bs.length = ks.length)
    (hn : ∀ (i b : Nat) (k : Tree), bs[i]? = some b → ks[i]? = some k → NodeAt F w b k) : NodeAt F w p (.node lv v ks)

/-- A node, opened. -/
structure Open (F : Nat → Prop) (w : World) (p : Nat) (t : Tree) (sv mv kv : Value) (bs : List Nat) : Prop where
  mem : F p
  c0 : w.cell? ⟨p, 0, none⟩ = some sv
  hsf : StrsF F w sv t.lv
  c1 : w.cell? ⟨p, 1, none⟩ = some mv
  hm : MsgPtr F w mv t.val
  c2 : w.cell? ⟨p, 2, none⟩ = some kv
  hkf : RowF F w 1 kv bs.length (bs.map ptrV)
  hl : bs.length = t.kids.length
  hn : ∀ (i b : Nat) (k : Tree), bs[i]? = some b → t.kids[i]? = some k → NodeAt F w b k

section
variable {F F' : Nat → Prop} {w w' : World}
theorem Open.hs {p : Nat} {t : Tree} {sv mv kv : Value} {bs : List Nat} (h : Open F w p t sv mv kv bs) : Tp.StrsAt w sv t.lv := h.hsf.strs
theorem Open.hk {p : Nat} {t : Tree} {sv mv kv : Value} {bs : List Nat} (h : Open F w p t sv mv kv bs) : RowAt w 1 kv bs.length (bs.map ptrV) := h.hkf.1

theorem NodeAt.open {p : Nat} {t : Tree} (h : NodeAt F w p t) : ∃ sv mv kv bs, Open F w p t sv mv kv bs := by
  cases h with
  | mk _ lv v ks sv mv kv bs hp c0 hs c1 hm c2 hk hl hn => exact ⟨sv, mv, kv, bs, hp, c0, hs, c1, hm, c2, hk, hl, hn⟩

theorem Open.shut {p : Nat} {t : Tree} {sv mv kv : Value} {bs : List Nat} (h : Open F w p t sv mv kv bs) : NodeAt F w p t := by
  cases t; exact .mk p _ _ _ sv mv kv bs h.mem h.c0 h.hsf h.c1 h.hm h.c2 h.hkf h.hl h.hn

theorem NodeAt.same (hb : Same F w w') : ∀ {t : Tree} {p : Nat}, NodeAt F w p t → NodeAt F w' p t := by
  intro t
  refine Tr.ind (P := fun t => ∀ {p : Nat}, NodeAt F w p t → NodeAt F w' p t) (fun lv v ks ih p h => ?_) t
  cases h with
  | mk _ _ _ _ sv mv kv bs hp c0 hs c1 hm c2 hk hl hn =>
    exact .mk p lv v ks sv mv kv bs hp (hb.cell hp c0) (RowF.keep hs hb) (hb.cell hp c1) (hm.keep hb) (hb.cell hp c2) (hk.keep hb) hl (fun i b k h1 h2 => ih k (List.mem_of_getElem? h2) (hn i b k h1 h2))

theorem NodeAt.mono (hF : ∀ b, F b → F' b) : ∀ {t : Tree} {p : Nat}, NodeAt F w p t → NodeAt F' w p t := by
  intro t
  refine Tr.ind (P := fun t => ∀ {p : Nat}, NodeAt F w p t → NodeAt F' w p t) (fun lv v ks ih p h => ?_) t
  cases h with
  | mk _ _ _ _ sv mv kv bs hp c0 hs c1 hm c2 hk hl hn =>
    exact .mk p lv v ks sv mv kv bs (hF _ hp) c0 (RowF.mono hs hF) c1 (hm.mono hF) c2 (hk.mono hF) hl (fun i b k h1 h2 => ih k (List.mem_of_getElem? h2) (hn i b k h1 h2))

theorem NodeAt.keep (hb : Below w.heap.size w w') {t : Tree} {p : Nat} (h : NodeAt F w p t) : NodeAt F w' p t := NodeAt.same (Same.below hb) h

theorem Open.same {p : Nat} {t : Tree} {sv mv kv : Value} {bs : List Nat} (h : Open F w p t sv mv kv bs) (hb : Same F w w') : Open F w' p t sv mv kv bs :=
  ⟨h.mem, hb.cell h.mem h.c0, RowF.keep h.hsf hb, hb.cell h.mem h.c1, h.hm.keep hb, hb.cell h.mem h.c2, h.hkf.keep hb, h.hl, fun i b k h1 h2 => NodeAt.same hb (h.hn i b k h1 h2)⟩
theorem Open.below {p : Nat} {t : Tree} {sv mv kv : Value} {bs : List Nat} (h : Open F w p t sv mv kv bs) (hb : Below w.heap.size w w') : Open F w' p t sv mv kv bs := h.same (Same.below hb)
theorem Open.mono {p : Nat} {t : Tree} {sv mv kv : Value} {bs : List Nat} (h : Open F w p t sv mv kv bs) (hF : ∀ b, F b → F' b) : Open F' w p t sv mv kv bs :=
  ⟨hF _ h.mem, h.c0, RowF.mono h.hsf hF, h.c1, h.hm.mono hF, h.c2, h.hkf.mono hF, h.hl, fun i b k h1 h2 => NodeAt.mono hF (h.hn i b k h1 h2)⟩

/-- A new node, laid down. -/
theorem node_new {t : Tree} {sv mv kv : Value} {bs : List Nat} {ty : TypeId} (h : w.alloc (.cells #[sv, mv, kv] ty) = w') (hp : F w.heap.size) (hs : StrsF F w sv t.lv) (hm : MsgPtr F w mv t.val) (hk : RowF F w 1 kv bs.length (bs.map ptrV)) (hl : bs.length = t.kids.length)
    (hn : ∀ (i b : Nat) (k : Tree), bs[i]? = some b → t.kids[i]? = some k → NodeAt F w b k) : NodeAt F w' w.heap.size t ∧ Below w.heap.size w w' ∧ w'.heap.size = w.heap.size + 1 := by
  subst h
  have g0 := (MapKept.heap_alloc w (.cells #[sv, mv, kv] ty)).1
  have hb : Below w.heap.size w (w.alloc (.cells #[sv, mv, kv] ty)) := (Below.refl _ w).alloc (Nat.le_refl _) _
  have hsm : Same F w (w.alloc (.cells #[sv, mv, kv] ty)) := Same.below hb
  refine ⟨Open.shut (sv := sv) (mv := mv) (kv := kv) (bs := bs) ⟨hp, ?_, RowF.keep hs hsm, ?_, hm.keep hsm, ?_, hk.keep hsm, hl, fun i b k h1 h2 => NodeAt.keep hb (hn i b k h1 h2)⟩, hb, by simp⟩ <;> (unfold World.cell?; simp only; rw [g0]; rfl)
end

/-! ### The order of levels -/
def ltB (x y : ByteArray) : Bool := decide (Tp.cmpB x y = -1)

theorem ltB_iff {x y : ByteArray} : ltB x y = true ↔ Tp.cmpB x y = -1 := by unfold ltB; simp
theorem cmpB_three (x y : ByteArray) : Tp.cmpB x y = -1 ∨ Tp.cmpB x y = 0 ∨ Tp.cmpB x y = 1 := by unfold Tp.cmpB; split; (exact .inl rfl); split; (exact .inr (.inr rfl)); exact .inr (.inl rfl)

theorem linB : Lin ltB where
  irr := fun a => by
    cases h : ltB a a with
    | false => rfl
    | true =>
      have h1 := ltB_iff.1 h
      have h2 := (Tp.cmpB_zero a a).2 rfl
      omega
  trans := fun a b c h1 h2 => ltB_iff.2 (Tp.cmpB_trans (ltB_iff.1 h1) (ltB_iff.1 h2))
  tri := fun a b h1 h2 => by
    have r := Tp.cmpB_rev a b
    have n1 : Tp.cmpB a b ≠ -1 := fun e => by rw [ltB_iff.2 e] at h1; exact absurd h1 (by simp)
    have n2 : Tp.cmpB b a ≠ -1 := fun e => by rw [ltB_iff.2 e] at h2; exact absurd h2 (by simp)
    have := cmpB_three a b
    exact (Tp.cmpB_zero a b).1 (by omega)

/-! ### How much there is -/
structure Lim {α : Type} (t : Tr ByteArray α) : Prop where
  count : (body t).length ≤ 1000000
  long : ∀ e ∈ body t, e.1.length ≤ 1000000001

theorem Lim.kid {α : Type} {t k : Tr ByteArray α} (h : Lim t) (hk : k ∈ t.kids) : Lim k ∧ ∀ e ∈ ents k, e.1.length ≤ 1000000001 := by
  have hsub : ∀ e ∈ ents k, e ∈ body t := fun e he => List.mem_append_right _ (entsL_mem.2 ⟨k, hk, he⟩)
  have hl : (ents k).length ≤ (body t).length := by
    obtain ⟨a, b, hab⟩ := List.append_of_mem hk
    unfold body
    rw [hab, entsL_app, entsL_cons]
    simp only [List.length_append]
    omega
  have hle : ∀ e ∈ ents k, e.1.length ≤ 1000000001 := fun e he => h.long e (hsub e he)
  refine ⟨⟨?_, fun e he => ?_⟩, hle⟩
  · rw [ents_body, pre_length] at hl
    have := h.count
    omega
  · have := hle (k.lv ++ e.1, e.2) (by rw [ents_body]; exact List.mem_map.2 ⟨e, he, rfl⟩)
    rw [List.length_append] at this
    omega

theorem Lim.lv {α : Type} {t k : Tr ByteArray α} (h : Lim t) (hf : Forest ltB t.kids) (hk : k ∈ t.kids) : k.lv.length ≤ 1000000001 := by
  obtain ⟨e, he⟩ := List.exists_mem_of_ne_nil _ (hf.ok k hk).ents_ne
  have h1 := (h.kid hk).2 e he
  obtain ⟨r, hr⟩ := ents_lv he
  rw [← hr, List.length_append] at h1
  omega

theorem entsL_many {α : Type} : ∀ {ks : List (Tr ByteArray α)}, Forest ltB ks → ks.length ≤ (entsL ks).length
  | [], _ => by simp
  | k :: ks, h => by
    obtain ⟨f1, f2, _⟩ := Forest.app (a := [k]) (b := ks) h
    have h1 := entsL_many f2
    have h2 : 0 < (ents k).length := List.length_pos_iff.2 (f1.ok k (by simp)).ents_ne
    rw [entsL_cons, List.length_append, List.length_cons]
    omega

theorem Lim.kids {α : Type} {t : Tr ByteArray α} (h : Lim t) (hf : Forest ltB t.kids) : t.kids.length ≤ 1000000 := by
  have h1 := entsL_many hf
  have h2 := h.count
  unfold body at h2
  rw [List.length_append] at h2
  omega

/-- Where a level stands: by place. -/
theorem place_iff {p : ByteArray} {ks : List Tree} (h : Forest ltB ks) {i : Nat} {k : Tree} (hk : ks[i]? = some k) : ∃ x xs, k.lv = x :: xs ∧ (ltB x p = true ↔ i < place ltB p ks) := by
  obtain ⟨h1, h2⟩ := place_split linB p h
  obtain ⟨hi, hg⟩ := List.getElem?_eq_some_iff.1 hk
  by_cases hlt : i < place ltB p ks
  · have hm : k ∈ ks.take (place ltB p ks) := by
      rw [List.mem_iff_getElem?]
      exact ⟨i, by rw [List.getElem?_take, if_pos hlt, hk]⟩
    obtain ⟨x, xs, e, hl⟩ := h1 k hm
    exact ⟨x, xs, e, by simp [hl, hlt]⟩
  · have hm : k ∈ ks.drop (place ltB p ks) := by
      rw [List.mem_iff_getElem?]
      exact ⟨i - place ltB p ks, by rw [List.getElem?_drop, show place ltB p ks + (i - place ltB p ks) = i by omega, hk]⟩
    obtain ⟨x, xs, e, hl⟩ := h2 k hm
    exact ⟨x, xs, e, by simp [hl, hlt]⟩

theorem place_le (p : ByteArray) (ks : List Tree) : place ltB p ks ≤ ks.length := List.countP_le_length
end Go.Proofs.Rt

/- Proved here: rettrie.byLevel; slices.BinarySearchFunc by it; slices.Equal of levels. -/
namespace Go.Proofs.YtgnffkahlniehaaGreat
open Go Go.RowKit Go.Proofs.Gs Go.Proofs.Tri Go.Proofs.Rt

theorem drewN_two (w : World) (a b : Nat) : ∃ m, (w.drewN a).drewN b = w.drewN m := ⟨a + b, by simp [World.drewN, Nat.add_assoc]⟩

theorem byLevel_any {F : Nat → Prop} {w : World} {b : Nat} {k : Tree} {x : ByteArray} {xs : List ByteArray} (h : NodeAt F w b k) (hx : k.lv = x :: xs) (s : ByteArray) :
    Calls Tryz.prog 55 #[.pointer (some ⟨b, 0, none⟩), .string s] w fun e w' => e = .returned (.int .i64 (Tp.cmpB x s)) ∧ w' = w := by
  obtain ⟨sv, mv, kv, bs, O⟩ := h.open
  have hs := O.hs
  rw [hx] at hs
  obtain ⟨b0, off, cap, rfl, h1, h2, h3, h4⟩ := Tp.StrsAt.open hs (by simp)
  have c0 := O.c0
  have c1 := h4 0 x rfl
  rw [Nat.add_zero] at c1
  have hpos : 0 < (x :: xs).length := by simp
  clear O hs h4
  generalize (x :: xs).length = m at c0 hpos h1
  have hp2 : (0 : Int) < (m : Int) := by omega
  go_enter Tryz.func55, Tryz.ntmps55
  go_wp2_with fail
  refine (cmpStr_any _ _ _).mono ?_
  rintro e w' ⟨rfl, rfl⟩
  go_wp2_with fail
  go_ret
  exact ⟨rfl, rfl⟩

theorem call_byLevel (args : Array Value) (W : World) : (callFunc 55 args).run Tryz.prog W = .ok (.enter 55 args) W := by go_simp

theorem kidAt_isSome {p : ByteArray} {ks : List Tree} : (kidAt ltB p ks).isSome = true ↔ ∃ k xs, ks[place ltB p ks]? = some k ∧ k.lv = p :: xs := by
  unfold kidAt
  cases h : ks[place ltB p ks]? with
  | none => simp
  | some k =>
    simp only
    constructor
    · intro hh
      split at hh
      · rename_i e
        cases hl : k.lv with
        | nil => rw [hl] at e; simp at e
        | cons y ys => rw [hl] at e; simp at e; subst e; exact ⟨k, ys, rfl, hl⟩
      · simp at hh
    · rintro ⟨k', xs, e, hl⟩
      injection e with e; subst e
      rw [if_pos (by rw [hl]; rfl)]
      rfl

set_option maxHeartbeats 2000000 in
set_option maxRecDepth 100000 in
theorem bsf_any {F : Nat → Prop} {w : World} {kv : Value} {bs : List Nat} {ks : List Tree} {p : ByteArray} (hk : RowAt w 1 kv bs.length (bs.map ptrV)) (hl : bs.length = ks.length) (hn : ∀ (i b : Nat) (k : Tree), bs[i]? = some b → ks[i]? = some k → NodeAt F w b k)
    (hf : Forest ltB ks) (hm : ks.length ≤ 1000000) :
    Calls Tryz.prog 54 #[kv, .string p, .func (.func 55) #[] #[]] w
      fun e w' => e = .returned (.tuple #[.int .i64 (place ltB p ks), .bool (kidAt ltB p ks).isSome]) ∧ w' = w := by
  have hpl := place_le p ks
  -- one look
  have look : ∀ i, i < ks.length → ∃ b x, (∀ b0 off, (∀ j u, (bs.map ptrV)[j]? = some u → w.cell? ⟨b0, off + j, none⟩ = some u) → w.cell? ⟨b0, off + i, none⟩ = some (.pointer (some ⟨b, 0, none⟩))) ∧
      Calls Tryz.prog 55 #[.pointer (some ⟨b, 0, none⟩), .string p] w (fun e w' => e = .returned (.int .i64 (Tp.cmpB x p)) ∧ w' = w) ∧ (ltB x p = true ↔ i < place ltB p ks) ∧ (i = place ltB p ks → (x = p ↔ (kidAt ltB p ks).isSome = true)) := by
    intro i hi
    have hkg := List.getElem?_eq_getElem hi
    have hbg : bs[i]? = some bs[i] := List.getElem?_eq_getElem (by omega)
    obtain ⟨x, xs, hx, hlt⟩ := place_iff (p := p) hf hkg
    refine ⟨bs[i], x, fun b0 off hc => hc i _ (by rw [List.getElem?_map, hbg]; rfl), byLevel_any (hn i _ _ hbg hkg) hx p, hlt, fun e => ?_⟩
    rw [kidAt_isSome, ← e]
    constructor
    · intro hxp; subst hxp; exact ⟨_, xs, hkg, hx⟩
    · rintro ⟨k, ys, h1, h2⟩
      rw [hkg] at h1; injection h1 with h1
      rw [h1, h2] at hx; injection hx with hx _; exact hx.symm
  have HL := Lib.hid look
  have HF := Lib.hid hf
  have HM := Lib.hid hn
  have hcallf := call_byLevel
  rcases RowAt.cases hk with ⟨hz, _, a, cap, rfl, hcm⟩ | ⟨hpos, b0, off, cap, rfl, hnc, hcm, hb, hc⟩
  · have hks0 : ks = [] := List.eq_nil_of_length_eq_zero (by omega)
    subst hks0
    have hp0 : place ltB p ([] : List Tree) = 0 := rfl
    have hk0 : (kidAt ltB p ([] : List Tree)).isSome = false := rfl
    rw [hp0, hk0]
    clear look hk hf hn hpl hp0 hk0 HL HF HM
    go_enter Tryz.func54, Tryz.ntmps54
    go_wp2_with fail
    go_loopg [9, 10, 11] 0 (fun g i j h wr => i = .int .i64 0 ∧ j = .int .i64 0 ∧ wr = w)
    case atStart => exact ⟨rfl, rfl, rfl⟩
    case round =>
      obtain ⟨rfl, rfl, rfl⟩ := hrel
      go_wp2_with fail
      go_ret2
      exact ⟨rfl, rfl⟩
  · rw [hl] at hpos hnc
    obtain ⟨n, hnn⟩ : ∃ n, ks.length = n := ⟨_, rfl⟩
    have hbn : bs.length = n := by omega
    obtain ⟨q, hq⟩ : ∃ q, place ltB p ks = q := ⟨_, rfl⟩
    obtain ⟨r, hr⟩ : ∃ r, (kidAt ltB p ks).isSome = r := ⟨_, rfl⟩
    have look2 : ∀ i, i < n → ∃ b x, w.cell? ⟨b0, off + i, none⟩ = some (.pointer (some ⟨b, 0, none⟩)) ∧
      Calls Tryz.prog 55 #[.pointer (some ⟨b, 0, none⟩), .string p] w (fun e w' => e = .returned (.int .i64 (Tp.cmpB x p)) ∧ w' = w) ∧ (Tp.cmpB x p < 0 ↔ i < q) ∧ (i = q → (Tp.cmpB x p = 0 ↔ r = true)) := by
      intro i hi
      obtain ⟨b, x, h1, h2, h3, h4⟩ := HL.out i (by omega)
      refine ⟨b, x, h1 b0 off hc, h2, ?_, fun e => ?_⟩
      · rw [← hq, ← h3, ltB_iff]
        have := cmpB_three x p
        omega
      · rw [← hr, ← h4 (by omega), Tp.cmpB_zero]
    rw [hbn, hq, hr]
    rw [hnn] at hpos hnc hm hpl
    rw [hq] at hpl
    have HQ0 : r = true → q < n := by
      intro e
      rw [← hr] at e
      obtain ⟨k, xs, h1, _⟩ := kidAt_isSome.1 e
      have := (List.getElem?_eq_some_iff.1 h1).1
      omega
    have HQ := Lib.hid HQ0
    have HL2 := Lib.hid look2
    clear look look2 hk hf hn HL HF HM hc hq hr HQ0 hl hnn hbn
    go_enter Tryz.func54, Tryz.ntmps54
    go_wp2_with fail
    go_loopg [9, 10, 11] n (fun g i j h wr => ∃ a c : Nat, i = .int .i64 (a : Nat) ∧ j = .int .i64 (c : Nat) ∧ a ≤ q ∧ q ≤ c ∧ c ≤ n ∧ c - a ≤ g ∧ wr = w)
    case atStart => exact ⟨0, n, rfl, rfl, Nat.zero_le _, hpl, Nat.le_refl _, by omega, rfl⟩
    case round =>
      obtain ⟨a, c, rfl, rfl, h1, h2, h3, h4, rfl⟩ := hrel
      by_cases hac : a < c
      · have hd : decide ((a : Int) < (c : Int)) = true := decide_eq_true (by omega)
        have hm1 : a ≤ (a + c) / 2 := by omega
        have hm2 : (a + c) / 2 < c := by omega
        obtain ⟨b, x, c1, hcall, hq1, -⟩ := HL2.out ((a + c) / 2) (by omega)
        have HC := Lib.hid hcall
        have hb1 : ((a : Int) + (c : Int)) / 2 < (n : Int) := by omega
        have hb2 : (0 : Int) ≤ ((a : Int) + (c : Int)) / 2 := by omega
        have hb3 : (((a : Int) + (c : Int)) / 2).toNat = (a + c) / 2 := by omega
        have hb4 : (a + c) / 2 < n := by omega
        generalize Tp.cmpB x p = v at hq1 HC
        clear hcall
        by_cases hlt : (a + c) / 2 < q
        · have hv : decide (v < 0) = true := decide_eq_true (hq1.2 hlt)
          clear hq1
          go_wp2_with fail
          refine HC.out.mono ?_
          rintro e w1 ⟨rfl, rfl⟩
          go_wp2_with fail
          go_roundg (gk - 1)
          case measure => omega
          case rel => exact ⟨(a + c) / 2 + 1, c, by simp, rfl, by omega, h2, h3, by omega, rfl⟩
        · have hv : decide (v < 0) = false := decide_eq_false (fun e => hlt (hq1.1 e))
          clear hq1
          go_wp2_with fail
          refine HC.out.mono ?_
          rintro e w1 ⟨rfl, rfl⟩
          go_wp2_with fail
          go_roundg (gk - 1)
          case measure => omega
          case rel => exact ⟨a, (a + c) / 2, rfl, by simp, h1, by omega, by omega, by omega, rfl⟩
      · have hd : decide ((a : Int) < (c : Int)) = false := decide_eq_false (by omega)
        have ha : a = q := by omega
        have hc : c = q := by omega
        subst ha
        subst hc
        clear h1 h2 hd hac h4 h3 hpl
        by_cases hcn : c < n
        · have hd2 : decide ((c : Int) < (n : Int)) = true := decide_eq_true (by omega)
          obtain ⟨b, x, c1, hcall, -, hq2⟩ := HL2.out c hcn
          have hr := hq2 rfl
          have HC := Lib.hid hcall
          generalize Tp.cmpB x p = v at hr HC
          clear hcall hq2
          cases r with
          | true =>
            have hv : (v == 0) = true := by rw [beq_iff_eq]; exact hr.2 rfl
            clear hr
            go_wp2_with fail
            refine HC.out.mono ?_
            rintro e w1 ⟨rfl, rfl⟩
            go_wp2_with fail
            go_ret2
            exact ⟨rfl, rfl⟩
          | false =>
            have hv : (v == 0) = false := by rw [beq_eq_false_iff_ne]; intro e; exact absurd (hr.1 e) (by simp)
            clear hr
            go_wp2_with fail
            refine HC.out.mono ?_
            rintro e w1 ⟨rfl, rfl⟩
            go_wp2_with fail
            go_ret2
            exact ⟨rfl, rfl⟩
        · have hd2 : decide ((c : Int) < (n : Int)) = false := decide_eq_false (by omega)
          obtain rfl : r = false := by
            cases r with
            | false => rfl
            | true => exact absurd (HQ.out rfl) hcn
          go_wp2_with fail
          go_ret2
          exact ⟨rfl, rfl⟩

set_option maxHeartbeats 2000000 in
set_option maxRecDepth 100000 in
/-- Two lists of levels: the same? -/
theorem equalS_any {w : World} {v1 v2 : Value} {L1 L2 : List ByteArray} (h1 : Tp.StrsAt w v1 L1) (h2 : Tp.StrsAt w v2 L2) (hl1 : L1.length ≤ 1000000001) :
    Calls Tryz.prog 78 #[v1, v2] w fun e w' => e = .returned (.bool (decide (L1 = L2))) ∧ ∃ m, w' = w.drewN m := by
  by_cases hne : L1.length = L2.length
  · by_cases h0 : L1.length = 0
    · have e1 : L1 = [] := List.eq_nil_of_length_eq_zero h0
      have e2 : L2 = [] := List.eq_nil_of_length_eq_zero (by omega)
      subst e1; subst e2
      obtain ⟨a1, c1, rfl⟩ := Tp.StrsAt.open_nil h1
      obtain ⟨a2, c2, rfl⟩ := Tp.StrsAt.open_nil h2
      clear h1 h2 hne h0
      go_enter Tryz.func78, Tryz.ntmps78
      go_wp2_with fail
      go_loopg [5, 13] 0 (fun g x i wr => i = .int .i64 0 ∧ wr = w)
      case atStart => exact ⟨rfl, rfl⟩
      case round =>
        obtain ⟨rfl, rfl⟩ := hrel
        go_wp2_with fail
        go_ret
        exact ⟨rfl, 0, rfl⟩
    · obtain ⟨b1, o1, c1, rfl, p1, p2, p3, p4⟩ := Tp.StrsAt.open h1 (by omega)
      obtain ⟨b2, o2, c2, rfl, q1, q2, q3, q4⟩ := Tp.StrsAt.open h2 (by omega)
      obtain ⟨n, hn⟩ : ∃ n, L1.length = n := ⟨_, rfl⟩
      have hn2 : L2.length = n := by omega
      have HP := Lib.hid p4
      have HQ := Lib.hid q4
      have HN := Lib.hid hn
      have HN2 := Lib.hid hn2
      rw [hn] at p1 hl1 ⊢
      rw [hn2] at q1 ⊢
      clear h1 h2 hne h0 p4 q4 hn hn2 p3 q3
      go_enter Tryz.func78, Tryz.ntmps78
      go_wp2_with fail
      go_loopg [5, 13] n (fun g x i wr => ∃ j m : Nat, j + g = n ∧ i = .int .i64 (j : Nat) ∧ L1.take j = L2.take j ∧ wr = w.drewN m)
      case atStart => exact ⟨0, 0, by omega, rfl, rfl, rfl⟩
      case round =>
        obtain ⟨j, m, hj, rfl, heq, rfl⟩ := hrel
        have HE := Lib.hid heq
        clear heq
        cases gk with
        | zero =>
          obtain rfl : j = n := by omega
          have hd : decide ((j : Int) < (j : Int)) = false := decide_eq_false (by omega)
          have hfin : decide (L1 = L2) = true := by
            have := HE.out
            rw [List.take_of_length_le (by have := HN.out; omega), List.take_of_length_le (by have := HN2.out; omega)] at this
            simpa using this
          have HFIN := Lib.hid hfin
          clear hfin
          go_wp2_with fail
          go_ret
          exact ⟨by rw [HFIN.out]; rfl, m, rfl⟩
        | succ gk =>
          have hjn : j < n := by omega
          have hd : decide ((j : Int) < (n : Int)) = true := decide_eq_true (by omega)
          obtain ⟨x, g1⟩ : ∃ x, L1[j]? = some x := ⟨_, List.getElem?_eq_getElem (show j < L1.length by have := HN.out; omega)⟩
          obtain ⟨y, g2⟩ : ∃ y, L2[j]? = some y := ⟨_, List.getElem?_eq_getElem (show j < L2.length by have := HN2.out; omega)⟩
          have k1 := HP.out j _ g1
          have k2 := HQ.out j _ g2
          have hb1 : (0 : Int) ≤ (j : Int) := by omega
          have hb2 : (j : Int) < (n : Int) := by omega
          have HG1 := Lib.hid g1
          have HG2 := Lib.hid g2
          clear g1 g2
          by_cases hxy : x = y
          · have e1 : (x.toList != y.toList) = false := by rw [hxy]; simp
            have e2 : (x.toList == y.toList) = true := by rw [hxy]; simp
            have HXY := Lib.hid hxy
            clear hxy
            go_wp2_with fail
            go_quiet (fail)
            go_wp2_with fail
            go_roundg gk
            case measure => omega
            case rel => exact ⟨j + 1, _, by omega, by go_num, by rw [List.take_add_one, List.take_add_one, HG1.out, HG2.out, HXY.out, HE.out], rfl⟩
          · have hne2 : x.toList ≠ y.toList := fun e => hxy (ba_ext (by rwa [Lib.toList_data, Lib.toList_data] at e))
            have e1 : (x.toList != y.toList) = true := by rw [bne_iff_ne]; exact hne2
            have e2 : (x.toList == y.toList) = false := by rw [beq_eq_false_iff_ne]; exact hne2
            have hfin : decide (L1 = L2) = false := decide_eq_false (fun e => by
              have := HG1.out
              rw [e, HG2.out] at this
              injection this with this
              exact hxy this.symm)
            have HFIN := Lib.hid hfin
            clear hfin hxy hne2
            go_wp2_with fail
            go_quiet (fail)
            go_wp2_with fail
            go_ret
            exact ⟨by rw [HFIN.out]; rfl, drewN_two w _ _⟩
  · have hb : ((L1.length : Int) != (L2.length : Int)) = true := by rw [bne_iff_ne]; omega
    obtain ⟨a1, c1, rfl, -⟩ := h1
    obtain ⟨a2, c2, rfl, -⟩ := h2
    have hfin : decide (L1 = L2) = false := decide_eq_false (fun e => hne (by rw [e]))
    have HFIN := Lib.hid hfin
    clear hfin
    generalize L1.length = n1 at *
    generalize L2.length = n2 at *
    clear hne
    go_enter Tryz.func78, Tryz.ntmps78
    go_wp2_with fail
    go_ret
    exact ⟨by rw [HFIN.out]; rfl, 0, rfl⟩
end Go.Proofs.YtgnffkahlniehaaGreat

/- Proved here: rettrie.left, what is left of a filter behind an edge. -/
namespace Go.Proofs.YtgnffkahlniehaaGreat
open Go Go.RowKit Go.Proofs.Gs Go.Proofs.Tri Go.Proofs.Rt Go.Proofs.Tp

def hashB (x : ByteArray) : Bool := decide (x.data.toList = [35])
def plusB (x : ByteArray) : Bool := decide (x.data.toList = [43])

theorem str_eq (x : ByteArray) (l : List UInt8) : (x.toList == l) = decide (x.data.toList = l) := by
  rw [Lib.toList_data, Bool.eq_iff_iff]; simp

/-- What left answers. -/
def LeftPost (G : Nat → Prop) (w : World) (r : Option (List ByteArray)) (e : Ending) : Prop :=
  match r with
  | some g => ∃ v, e = .returned (.tuple #[v, .bool true]) ∧ StrsF G w v g
  | none => ∃ v, e = .returned (.tuple #[v, .bool false])

/-- A cut s[1:]. -/
theorem strs_tail {w : World} {b o c n : Nat} {x : ByteArray} {L : List ByteArray} (hn : L.length = n) (hc : n + 1 ≤ c) (hm : c ≤ 9223372036854775807)
    (h : ∀ i y, (x :: L)[i]? = some y → w.cell? ⟨b, o + i, none⟩ = some (.string y)) : StrsAt w (.slice (if c = 1 then some ⟨b, o, none⟩ else some ⟨b, o + 1, none⟩) n (c - 1)) L := by
  subst hn
  refine ⟨_, _, rfl, by omega, by unfold maxLen; omega, ?_⟩
  by_cases h1 : c = 1
  · left; exact List.eq_nil_of_length_eq_zero (by omega)
  · right
    rw [if_neg h1]
    exact ⟨b, o + 1, rfl, fun i y hy => by rw [Nat.add_assoc, Nat.add_comm 1 i]; exact h (i + 1) y hy⟩

theorem strsF_tail {G : Nat → Prop} {w : World} {b o c n : Nat} {x : ByteArray} {L : List ByteArray} (hF : StrsF G w (.slice (some ⟨b, o, none⟩) (n + 1) c) (x :: L)) (hn : L.length = n) (hc : n + 1 ≤ c) (hm : c ≤ 9223372036854775807)
    (h : ∀ i y, (x :: L)[i]? = some y → w.cell? ⟨b, o + i, none⟩ = some (.string y)) : StrsF G w (.slice (if c = 1 then some ⟨b, o, none⟩ else some ⟨b, o + 1, none⟩) n (c - 1)) L := by
  refine ⟨RowAt.of_strs (strs_tail hn hc hm h), fun g e => ?_⟩
  have hb := hF.2 b rfl
  by_cases h1 : c = 1
  · rw [if_pos h1] at e; injection e with e; rw [← e]; exact hb
  · rw [if_neg h1] at e; injection e with e; rw [← e]; exact hb

set_option maxHeartbeats 2000000 in
set_option maxRecDepth 100000 in
theorem left_any {G : Nat → Prop} {w : World} {v1 v2 : Value} {F E : List ByteArray} (h1 : StrsF G w v1 F) (h2 : StrsAt w v2 E) (hE : E.length ≤ 1000000001) :
    Calls Tryz.prog 66 #[v1, v2] w fun e w' => LeftPost G w (left hashB plusB F E) e ∧ w' = w := by
  obtain ⟨a2, c2, rfl, q1, q2, q3⟩ := h2
  unfold maxLen at q2
  have hcell : ∀ i x, E[i]? = some x → ∃ b off, a2 = some ⟨b, off, none⟩ ∧ w.cell? ⟨b, off + i, none⟩ = some (.string x) := by
    intro i x hx
    rcases q3 with rfl | ⟨b, off, rfl, hc⟩
    · simp at hx
    · exact ⟨b, off, rfl, hc i x hx⟩
  obtain ⟨m, hm⟩ : ∃ m, E.length = m := ⟨_, rfl⟩
  rw [hm] at q1 hE ⊢
  have HC := Lib.hid hcell
  have HM := Lib.hid hm
  have H1 := Lib.hid h1
  obtain ⟨af, cf, rfl, f1, f2, -⟩ := h1.strs
  obtain ⟨nf, hnf⟩ : ∃ nf, F.length = nf := ⟨_, rfl⟩
  rw [hnf] at H1 f1 ⊢
  clear hcell hm q3 q1 hnf f1 f2
  go_enter Tryz.func66, Tryz.ntmps66
  go_wp2_with fail
  go_loopg [0, 7, 10] m (fun g fv s i wr => ∃ (j : Nat) (F' : List ByteArray), j + g = m ∧ i = .int .i64 (j : Nat) ∧ StrsF G w fv F' ∧ left hashB plusB F E = left hashB plusB F' (E.drop j) ∧ wr = w)
  case atStart => exact ⟨0, F, by omega, rfl, H1.out, rfl, rfl⟩
  case round =>
    obtain ⟨j, F', hj, rfl, hF, heq, rfl⟩ := hrel
    have HEQ := Lib.hid heq
    clear heq
    cases gk with
    | zero =>
      obtain rfl : j = m := by omega
      have hd : decide ((j : Int) < (j : Int)) = false := decide_eq_false (by omega)
      have hfin : left hashB plusB F E = some F' := by
        rw [HEQ.out, List.drop_of_length_le (by have := HM.out; omega)]
        cases F' <;> rfl
      have HFIN := Lib.hid hfin
      have HF := Lib.hid hF
      clear hfin hF
      go_wp2_with fail
      go_ret2
      exact ⟨by rw [HFIN.out]; exact ⟨_, rfl, HF.out⟩, rfl⟩
    | succ gk =>
      have hjm : j < m := by omega
      have hd : decide ((j : Int) < (m : Int)) = true := decide_eq_true (by omega)
      obtain ⟨s, hs⟩ : ∃ s, E[j]? = some s := ⟨_, List.getElem?_eq_getElem (by have := HM.out; omega)⟩
      obtain ⟨b2, o2, rfl, k2⟩ := HC.out j s hs
      have hdr : E.drop j = s :: E.drop (j + 1) := drop_at hs
      have hb1 : (0 : Int) ≤ (j : Int) := by omega
      have hb2 : (j : Int) < (m : Int) := by omega
      have HDR := Lib.hid hdr
      clear hs hdr
      cases F' with
      | nil =>
        obtain ⟨a1, c1, rfl⟩ := hF.strs.open_nil
        have hfin : left hashB plusB F E = none := by rw [HEQ.out, HDR.out]; rfl
        have HFIN := Lib.hid hfin
        clear hfin hF
        go_wp2_with fail
        go_ret2
        exact ⟨by rw [HFIN.out]; exact ⟨_, rfl⟩, rfl⟩
      | cons x F' =>
        obtain ⟨b1, o1, c1, rfl, p1, p2, p3, p4⟩ := hF.strs.open (by simp)
        have k1 := p4 0 x rfl
        rw [Nat.add_zero] at k1
        obtain ⟨n, hn⟩ : ∃ n, F'.length = n := ⟨_, rfl⟩
        have hlen : (x :: F').length = n + 1 := by simp [hn]
        rw [hlen] at hF p1 ⊢
        have hl0 : ((n : Int) + 1 == 0) = false := by rw [beq_eq_false_iff_ne]; omega
        have hl1 : (((n + 1 : Nat) : Int) == 0) = false := by rw [beq_eq_false_iff_ne]; omega
        have hb3 : (0 : Int) < (n : Int) + 1 := by omega
        have HF := Lib.hid hF
        have HT := Lib.hid (strsF_tail hF hn p1 p2 p4)
        clear hF p4 hlen hn
        by_cases hx : x.data.toList = [35]
        · have hx1 : (x.toList == [35]) = true := by rw [str_eq, decide_eq_true hx]
          have hfin : left hashB plusB F E = some (x :: F') := by rw [HEQ.out, HDR.out, left, if_pos (by unfold hashB; exact decide_eq_true hx)]
          have HFIN := Lib.hid hfin
          clear hfin hx
          go_wp2_with fail
          go_ret2
          exact ⟨by rw [HFIN.out]; exact ⟨_, rfl, HF.out⟩, rfl⟩
        · have hx1 : (x.toList == [35]) = false := by rw [str_eq, decide_eq_false hx]
          have hstep : left hashB plusB F E = if plusB x || decide (x = s) then left hashB plusB F' (E.drop (j + 1)) else none := by
            rw [HEQ.out, HDR.out, left, if_neg (by unfold hashB; simpa using hx)]
          have HST := Lib.hid hstep
          clear hstep hx
          by_cases hp : x.data.toList = [43]
          · have hp1 : (x.toList == [43]) = true := by rw [str_eq, decide_eq_true hp]
            have hp2 : (x.toList != [43]) = false := by unfold bne; rw [hp1]; rfl
            have hfin : left hashB plusB F E = left hashB plusB F' (E.drop (j + 1)) := by rw [HST.out, if_pos (by unfold plusB; simp [hp])]
            have HFIN := Lib.hid hfin
            clear hfin hp
            by_cases hc1 : c1 = 1
            all_goals
              have ht := HT.out
              first | rw [if_pos hc1] at ht | rw [if_neg hc1] at ht
              have HT2 := Lib.hid ht
              clear ht
              go_wp2_with fail
              go_roundg gk
              case measure => omega
              case rel => exact ⟨j + 1, F', by omega, by go_num, by first | exact HT2.out | (have h := HT2.out; rw [hc1] at h; exact h) | simpa using HT2.out, HFIN.out, rfl⟩
          · have hp1 : (x.toList == [43]) = false := by rw [str_eq, decide_eq_false hp]
            have hp2 : (x.toList != [43]) = true := by unfold bne; rw [hp1]; rfl
            by_cases hxs : x = s
            · have hs1 : (x.toList == s.toList) = true := by rw [hxs]; simp
              have hs2 : (x.toList != s.toList) = false := by rw [hxs]; simp
              have hfin : left hashB plusB F E = left hashB plusB F' (E.drop (j + 1)) := by rw [HST.out, if_pos (by simp [hxs])]
              have HFIN := Lib.hid hfin
              clear hfin hp hxs
              by_cases hc1 : c1 = 1
              all_goals
                have ht := HT.out
                first | rw [if_pos hc1] at ht | rw [if_neg hc1] at ht
                have HT2 := Lib.hid ht
                clear ht
                go_wp2_with fail
                go_roundg gk
                case measure => omega
                case rel => exact ⟨j + 1, F', by omega, by go_num, by first | exact HT2.out | (have h := HT2.out; rw [hc1] at h; exact h) | simpa using HT2.out, HFIN.out, rfl⟩
            · have hne : x.toList ≠ s.toList := fun e => hxs (ba_ext (by rwa [Lib.toList_data, Lib.toList_data] at e))
              have hs1 : (x.toList == s.toList) = false := by rw [beq_eq_false_iff_ne]; exact hne
              have hs2 : (x.toList != s.toList) = true := by rw [bne_iff_ne]; exact hne
              have hfin : left hashB plusB F E = none := by rw [HST.out, if_neg (by unfold plusB; simp [hp, hxs])]
              have HFIN := Lib.hid hfin
              clear hfin hp hxs hne
              go_wp2_with fail
              go_ret2
              exact ⟨by rw [HFIN.out]; exact ⟨_, rfl⟩, rfl⟩
end Go.Proofs.YtgnffkahlniehaaGreat

/- Proved here: the node at a path. -/
namespace Go.Proofs.YtgnffkahlniehaaGreat
open Go Go.RowKit Go.Proofs.Gs Go.Proofs.Tri Go.Proofs.Rt Go.Proofs.Tp

theorem below_drew (w : World) (m : Nat) : Below w.heap.size w (w.drewN m) := ⟨rfl, rfl, rfl, Nat.le_refl _, fun _ _ => rfl⟩
theorem below_undrew (w : World) (m : Nat) : Below (w.drewN m).heap.size (w.drewN m) w := ⟨rfl, rfl, rfl, Nat.le_refl _, fun _ _ => rfl⟩

/-- What a trie's node is, for a walk. -/
structure Good (F : Nat → Prop) (w : World) (p : Nat) (t : Tree) : Prop where
  node : NodeAt F w p t
  forest : Forest ltB t.kids
  lim : Lim t

theorem Good.below {F : Nat → Prop} {w w' : World} {p : Nat} {t : Tree} (h : Good F w p t) (hb : Below w.heap.size w w') : Good F w' p t := ⟨NodeAt.keep hb h.node, h.forest, h.lim⟩

/-- What at answers. -/
def AtPost (F : Nat → Prop) (w : World) (r : Option Tree) (e : Ending) : Prop :=
  match r with
  | some n => ∃ q, e = .returned (.pointer (some ⟨q, 0, none⟩)) ∧ Good F w q n
  | none => e = .returned (.pointer none)

/-- An edge that begins with a level: where it stands, and that it is good. -/
theorem Good.kid {F : Nat → Prop} {w : World} {p : Nat} {t k : Tree} {x : ByteArray} {sv mv kv : Value} {bs : List Nat} (O : Rt.Open F w p t sv mv kv bs) (hf : Forest ltB t.kids) (hl : Lim t) (hk : kidAt ltB x t.kids = some k) :
    ∃ b c off cap xs, kv = .slice (some ⟨c, off, none⟩) bs.length cap ∧ place ltB x t.kids < bs.length ∧ bs.length ≤ cap ∧ cap ≤ 9223372036854775807 ∧ w.cell? ⟨c, off + place ltB x t.kids, none⟩ = some (.pointer (some ⟨b, 0, none⟩)) ∧ Good F w b k ∧ k.lv = x :: xs ∧ k.lv.length ≤ 1000000001 ∧ k ∈ t.kids := by
  obtain ⟨A, B, xs, hks, hA, hlv, _, _⟩ := kidAt_some linB hf hk
  have hmem : k ∈ t.kids := by rw [hks]; simp
  have hkg : t.kids[place ltB x t.kids]? = some k := by rw [← hA]; conv => lhs; rw [hks]
                                                        simp
  have hpl := (List.getElem?_eq_some_iff.1 hkg).1
  have hlt : place ltB x t.kids < bs.length := by rw [O.hl]; exact hpl
  rcases RowAt.cases O.hk with ⟨hz, _⟩ | ⟨hpos, c, off, cap, rfl, hnc, hcm, hb, hc⟩
  · omega
  · have hbg : bs[place ltB x t.kids]? = some bs[place ltB x t.kids] := List.getElem?_eq_getElem hlt
    refine ⟨bs[place ltB x t.kids], c, off, cap, xs, rfl, hlt, hnc, hcm, hc _ _ (by rw [List.getElem?_map, hbg]; rfl), ⟨O.hn _ _ _ hbg hkg, (hf.ok k hmem).forest, (hl.kid hmem).1⟩, hlv, hl.lv hf hmem, hmem⟩

theorem bsf_open {F : Nat → Prop} {w : World} {p : Nat} {t : Tree} {sv mv kv : Value} {bs : List Nat} (O : Rt.Open F w p t sv mv kv bs) (hf : Forest ltB t.kids) (hl : Lim t) (x : ByteArray) (m : Nat) :
    Calls Tryz.prog 54 #[kv, .string x, .func (.func 55) #[] #[]] (w.drewN m)
      fun e w' => e = .returned (.tuple #[.int .i64 (place ltB x t.kids), .bool (kidAt ltB x t.kids).isSome]) ∧ w' = w.drewN m := by
  have O' := O.below (below_drew w m)
  exact bsf_any O'.hk O'.hl O'.hn hf (hl.kids hf)

theorem equal_drew {w : World} {v1 v2 : Value} {L1 L2 : List ByteArray} (h1 : StrsAt w v1 L1) (h2 : StrsAt w v2 L2) (hl1 : L1.length ≤ 1000000001) (m : Nat) :
    Calls Tryz.prog 78 #[v1, v2] (w.drewN m) fun e w' => e = .returned (.bool (decide (L1 = L2))) ∧ ∃ q, w' = (w.drewN m).drewN q := equalS_any (h1.below (below_drew w m)) (h2.below (below_drew w m)) hl1

set_option maxHeartbeats 4000000 in
set_option maxRecDepth 100000 in
theorem at_any {F : Nat → Prop} {w : World} {p : Nat} {t : Tree} (G : Good F w p t) {pv : Value} {path : List ByteArray} (hp : StrsAt w pv path) (hpl : path.length ≤ 1000000001) :
    Calls Tryz.prog 52 #[.pointer (some ⟨p, 0, none⟩), pv] w fun e w' => AtPost F w (nodeAt ltB t path) e ∧ ∃ m, w' = w.drewN m := by
  have HG := Lib.hid G
  have HP := Lib.hid hp
  clear G hp
  go_enter Tryz.func52, Tryz.ntmps52
  go_wp2_with fail
  go_loopg [0, 1, 5, 6] path.length (fun g nv qv iv ov wr => ∃ (p' : Nat) (t' : Tree) (path' : List ByteArray), nv = .pointer (some ⟨p', 0, none⟩) ∧ Good F wr p' t' ∧ StrsAt wr qv path' ∧ nodeAt ltB t path = nodeAt ltB t' path' ∧ path'.length ≤ g ∧ path'.length ≤ 1000000001 ∧ ∃ m, wr = w.drewN m)
  case atStart => exact ⟨p, t, path, rfl, HG.out, HP.out, rfl, Nat.le_refl _, hpl, 0, rfl⟩
  case round =>
    obtain ⟨p', t', path', rfl, hG, hQ, heq, hlen, hlen2, hW⟩ := hrel
    have HEQ := Lib.hid heq
    have HW := Lib.hid hW
    have HGG := Lib.hid hG
    clear heq hW hG
    cases path' with
    | nil =>
      obtain ⟨a, cap, rfl⟩ := hQ.open_nil
      clear hQ
      have hfin : nodeAt ltB t path = some t' := by rw [HEQ.out, nodeAt_nil]
      have HFIN := Lib.hid hfin
      clear hfin
      go_wp2_with fail
      go_ret
      refine ⟨?_, HW.out⟩
      rw [HFIN.out]
      obtain ⟨m, hm⟩ := HW.out
      exact ⟨p', rfl, by have := HGG.out.below (by rw [hm]; exact below_undrew w m : Below wr.heap.size wr w); exact this⟩
    | cons x xs =>
      obtain ⟨sv, mv, kv, bs, O⟩ := HGG.out.node.open
      obtain ⟨b1, o1, c1, rfl, p1, p2, p3, p4⟩ := hQ.open (by simp)
      have k1 := p4 0 x rfl
      rw [Nat.add_zero] at k1
      have kc := O.c2
      obtain ⟨n, hn⟩ : ∃ n, (x :: xs).length = n := ⟨_, rfl⟩
      have hn0 : 0 < n := by rw [← hn]; simp
      rw [hn] at hQ p1 hlen hlen2 ⊢
      have hb1 : (0 : Int) < (n : Int) := by omega
      have hd : decide ((0 : Int) < (n : Int)) = true := decide_eq_true hb1
      have hd2 : decide (0 < n) = true := decide_eq_true hn0
      have HO := Lib.hid O
      have HQ := Lib.hid hQ
      have HN := Lib.hid hn
      have HP4 := Lib.hid p4
      clear O hQ hn p4
      cases hk : kidAt ltB x t'.kids with
      | none =>
        have hfin : nodeAt ltB t path = none := by rw [HEQ.out, nodeAt_none hk]
        have HFIN := Lib.hid hfin
        have hso : (kidAt ltB x t'.kids).isSome = false := by rw [hk]; rfl
        have HSO := Lib.hid hso
        clear hfin hk hso
        go_wp2_with fail
        go_quiet ((go_at_call 54; exact Calls.quiet_of_same (bsf_open HO.out HGG.out.forest HGG.out.lim x _)))
        rw [HSO.out]
        go_wp2_with fail
        go_ret
        refine ⟨by rw [HFIN.out]; rfl, ?_⟩
        obtain ⟨m, rfl⟩ := HW.out
        exact drewN_two w _ _
      | some k =>
        have hso : (kidAt ltB x t'.kids).isSome = true := by rw [hk]; rfl
        have HSO := Lib.hid hso
        obtain ⟨b, c2, off2, cap2, ys, rfl, hlt, hnc, hcm, kk, hGk, hlvk, hlen3, hmem⟩ := Good.kid HO.out HGG.out.forest HGG.out.lim hk
        have hstep : nodeAt ltB t path = if (x :: xs).take k.lv.length = k.lv then nodeAt ltB k (xs.drop (k.lv.length - 1)) else none := by rw [HEQ.out, nodeAt_some hk]
        have HST := Lib.hid hstep
        have HGK := Lib.hid hGk
        have HLV := Lib.hid hlvk
        obtain ⟨q, hq⟩ : ∃ q, place ltB x t'.kids = q := ⟨_, rfl⟩
        obtain ⟨nb, hnb⟩ : ∃ nb, bs.length = nb := ⟨_, rfl⟩
        have HQQ := Lib.hid hq
        have HNB := Lib.hid hnb
        rw [hq] at hlt kk
        rw [hnb] at hlt hnc kc
        clear hk hso hstep hGk hlvk hmem hq hnb
        go_wp2_with fail
        go_quiet ((go_at_call 54; exact Calls.quiet_of_same (by rw [← HNB.out]; exact bsf_open HO.out HGG.out.forest HGG.out.lim x _)))
        rw [HSO.out, HQQ.out]
        go_wp2_with fail
        have hGV := HGK.out.below (below_drew wr nq)
        have hQV := HQ.out.below (below_drew wr nq)
        have hWV : ∃ m, wr.drewN nq = w.drewN m := by obtain ⟨m, rfl⟩ := HW.out; exact drewN_two w _ _
        clear kk kc k1 HW HQ HO HGK HP4 HSO
        generalize wr.drewN nq = V at hGV hQV hWV ⊢
        obtain ⟨sv2, mv2, kv2, bs2, O2⟩ := hGV.node.open
        obtain ⟨b3, o3, c3, rfl, r1, r2, r3, r4⟩ := Tp.StrsAt.open O2.hs (by rw [HLV.out]; simp)
        have kc2 := O2.c0
        have HS2 := Lib.hid O2.hs
        obtain ⟨m, hm⟩ : ∃ m, k.lv.length = m := ⟨_, rfl⟩
        have hm0 : 0 < m := by rw [← hm, HLV.out]; simp
        have HM := Lib.hid hm
        rw [hm] at hlen3 kc2 r1
        have HWV := Lib.hid hWV
        have HGV := Lib.hid hGV
        clear O2 hm hWV hGV r4 r3
        by_cases hle : n < m
        · have hd3 : decide ((n : Int) < (m : Int)) = true := decide_eq_true (by omega)
          have hfin : nodeAt ltB t path = none := by
            rw [HST.out, if_neg]
            intro e
            have := congrArg List.length e
            rw [List.length_take, HM.out, HN.out] at this
            omega
          have HFIN := Lib.hid hfin
          clear hfin
          go_quiet (fail)
          go_wp2_with fail
          go_ret
          refine ⟨by rw [HFIN.out]; rfl, ?_⟩
          obtain ⟨m', rfl⟩ := HWV.out
          exact drewN_two w _ _
        · have hd3 : decide ((n : Int) < (m : Int)) = false := decide_eq_false (by omega)
          have hmn : m ≤ n := by omega
          have hmc : m ≤ c1 := by omega
          have hb3 : (m : Int) ≤ (c1 : Int) := by omega
          have hb4 : (m : Int) ≤ (n : Int) := by omega
          have htk : StrsAt V (.slice (some ⟨b1, o1, none⟩) m c1) ((x :: xs).take m) := by
            obtain ⟨a, cap, e, s1, s2, s3⟩ := hQV
            injection e with e1 e2 e3
            subst e1; subst e3
            refine ⟨_, _, by rw [List.length_take, HN.out, Nat.min_eq_left hmn], by rw [List.length_take, HN.out, Nat.min_eq_left hmn]; omega, s2, ?_⟩
            rcases s3 with s3 | ⟨bb, oo, e4, s4⟩
            · simp at s3
            · refine .inr ⟨bb, oo, e4, fun i y hy => s4 i y ?_⟩
              rw [List.getElem?_take] at hy
              split at hy
              · exact hy
              · cases hy
          have HTK := Lib.hid htk
          have HQV := Lib.hid hQV
          have hlt2 : ((x :: xs).take m).length ≤ 1000000001 := by rw [List.length_take]; omega
          have HLT := Lib.hid hlt2
          have hst2 : nodeAt ltB t path = if (x :: xs).take m = k.lv then nodeAt ltB k (xs.drop (m - 1)) else none := by rw [HST.out, HM.out]
          have HST2 := Lib.hid hst2
          clear htk hQV hlt2 hst2 HST
          obtain ⟨r, hr⟩ : ∃ r, decide ((x :: xs).take m = k.lv) = r := ⟨_, rfl⟩
          have HR := Lib.hid hr
          clear hr
          have hcall : ∀ q, Calls Tryz.prog 78 #[.slice (some ⟨b1, o1, none⟩) m c1, .slice (some ⟨b3, o3, none⟩) m c3] (V.drewN q) fun e w' => e = .returned (.bool r) ∧ ∃ q', w' = (V.drewN q).drewN q' := fun q => by
            have h2 := HS2.out
            rw [HM.out] at h2
            rw [← HR.out]
            exact equal_drew HTK.out h2 HLT.out q
          have HCC := Lib.hid hcall
          clear hcall
          go_quiet ((go_at_call 78; exact Calls.quiet_of (HCC.out _)))
          cases r with
          | false =>
            have hfin : nodeAt ltB t path = none := by rw [HST2.out, if_neg (of_decide_eq_false HR.out)]
            have HFIN := Lib.hid hfin
            clear hfin
            go_wp2_with fail
            go_ret
            refine ⟨by rw [HFIN.out]; rfl, ?_⟩
            obtain ⟨m', rfl⟩ := HWV.out
            exact drewN_two w _ _
          | true =>
            have hmm : xs.drop (m - 1) = (x :: xs).drop m := by
              obtain ⟨m', rfl⟩ : ∃ m', m = m' + 1 := ⟨m - 1, by omega⟩
              rfl
            have hfin : nodeAt ltB t path = nodeAt ltB k ((x :: xs).drop m) := by rw [HST2.out, if_pos (of_decide_eq_true HR.out), hmm]
            have HFIN := Lib.hid hfin
            have hWW : ∃ m', V.drewN nq = w.drewN m' := by obtain ⟨m', rfl⟩ := HWV.out; exact drewN_two w _ _
            have HWW := Lib.hid hWW
            have hGW := HGV.out.below (below_drew V nq)
            have kc3 : (V.drewN nq).cell? ⟨b, 0, none⟩ = some (.slice (some ⟨b3, o3, none⟩) m c3) := kc2
            have hcut : StrsAt (V.drewN nq) (.slice (if c1 = m then some ⟨b1, o1, none⟩ else some ⟨b1, o1 + m, none⟩) (n - m) (c1 - m)) ((x :: xs).drop m) := by
              have hq := HQV.out.below (below_drew V nq)
              obtain ⟨a, cap, e, s1, s2, s3⟩ := hq
              injection e with e1 e2 e3
              subst e1; subst e3
              unfold maxLen at s2
              rcases s3 with s3 | ⟨bb, oo, e4, s4⟩
              · simp at s3
              · injection e4 with e4; injection e4 with e5 e6; subst e5; subst e6
                exact StrsAt.drop m hmn HN.out p1 s2 s4 _ (fun hlt => by rw [if_neg (by omega)])
            have hlen4 : ((x :: xs).drop m).length = n - m := by rw [List.length_drop, HN.out]
            have HGW := Lib.hid hGW
            have HL4 := Lib.hid hlen4
            clear hfin hmm hWW hGW hlen4 kc2 HCC HS2 HTK HLT HQV HWV HGV HST2
            generalize V.drewN nq = U at kc3 hcut HWW HGW ⊢
            by_cases hc1 : c1 = m
            all_goals
              first | rw [if_pos hc1] at hcut | rw [if_neg hc1] at hcut
              have HCUT := Lib.hid hcut
              clear hcut
              go_wp2_with fail
              go_roundg (gk - 1)
              case measure => omega
              case rel => exact ⟨b, k, (x :: xs).drop m, rfl, HGW.out, by first | exact HCUT.out | (have h := HCUT.out; rw [hc1] at h; exact h) | (have h := HCUT.out; simpa [hc1] using h), HFIN.out, by rw [HL4.out]; omega, by rw [HL4.out]; omega, HWW.out⟩
end Go.Proofs.YtgnffkahlniehaaGreat
