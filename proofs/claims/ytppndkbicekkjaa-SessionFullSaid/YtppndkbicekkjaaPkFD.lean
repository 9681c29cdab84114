/- Plain: a session: its filters in order, its window, the numbers noted. No program in sight. -/
import Derived.Test.YtppndkbicekkjaaPkFA
import Derived.Test.YtppndkbicekkjaaPkFC
import Derived.Maps.OwnSet
import Derived.Maps.Own
import Derived.Lib.SliceRun
import Derived.Test.YtppndkbicekkjaaProg
import Derived.WalkKit
import Derived.Shelf.RegionOpenPlain
import Derived.Laws.Externs
import Derived.Deep.RegionLaw
import Derived.Lib.Hide
import Derived.Shelf.SlicesE.Delete
import Derived.WalkSpells
import Derived.Lib.LazyBuf
namespace Go.Proofs.Sw
open Go Go.Proofs.Rt Go.Proofs.Tp

/-- A filter that was asked for, and the quality. -/
structure AskV where
  flt : ByteArray
  qos : Int
/-- A session. -/
structure Ses where
  key : ByteArray
  lasting : Bool
  most : Nat
  subs : List AskV
  noted : List Int
  win : Win

def isQ (q : Int) : Bool := decide (0 ≤ q) && decide (q ≤ 2)
def right (a : AskV) : Bool := decide (chkF a.flt = 0) && isQ a.qos
def isId (id : Int) : Bool := decide (1 ≤ id) && decide (id ≤ 65535)
/-- Where a filter stands, or would. -/
def spotA (f : ByteArray) : List AskV → Nat
  | [] => 0
  | a :: l => if cmpT a.flt f < 0 then spotA f l + 1 else 0
def hasA (l : List AskV) (f : ByteArray) : Bool := match l[spotA f l]? with | some a => decide (a.flt = f) | none => false
/-- In topic's order. -/
def InOrder (l : List AskV) : Prop := l.Pairwise fun a b => cmpT a.flt b.flt < 0

theorem spotA_le (f : ByteArray) : ∀ l : List AskV, spotA f l ≤ l.length
  | [] => Nat.le_refl _
  | a :: l => by
    rw [spotA, List.length_cons]
    have := spotA_le f l
    split <;> omega
theorem spotA_ahead {f : ByteArray} : ∀ {l : List AskV} {i : Nat} {a : AskV}, i < spotA f l → l[i]? = some a → cmpT a.flt f < 0
  | [], i, a, h, _ => by simp [spotA] at h
  | x :: l, 0, a, h, h2 => by
    injection h2 with h2
    subst h2
    rw [spotA] at h
    split at h
    · assumption
    · omega
  | x :: l, i + 1, a, h, h2 => by
    rw [spotA] at h
    split at h
    · exact spotA_ahead (l := l) (by omega) h2
    · omega
theorem spotA_stop {f : ByteArray} : ∀ {l : List AskV} {a : AskV}, l[spotA f l]? = some a → ¬ cmpT a.flt f < 0
  | [], a, h => by simp [spotA] at h
  | x :: l, a, h => by
    rw [spotA] at h
    split at h
    · exact spotA_stop (l := l) h
    · rename_i hx
      injection h with h
      subst h
      exact hx
theorem cmpT_zero {a b : ByteArray} : cmpT a b = 0 ↔ a = b := by
  unfold cmpT
  rw [cmpL_zero]
  exact ⟨levels_inj, fun e => by rw [e]⟩
theorem cmpT_cases (a b : ByteArray) : cmpT a b = -1 ∨ cmpT a b = 0 ∨ cmpT a b = 1 := cmpL_cases _ _
theorem cmpT_le {a b c : ByteArray} (h1 : cmpT a b ≤ 0) (h2 : cmpT b c ≤ 0) : cmpT a c ≤ 0 := cmpL_trans _ _ _ h1 h2
theorem cmpT_rev (a b : ByteArray) : cmpT b a = - cmpT a b := cmpL_rev _ _
theorem cmpT_lt {a b c : ByteArray} (h1 : cmpT a b < 0) (h2 : cmpT b c ≤ 0) : cmpT a c < 0 := by
  have h := cmpT_le (Int.le_of_lt h1) h2
  by_cases e : cmpT a c = 0
  · rw [cmpT_zero] at e
    subst e
    have := cmpT_rev a b
    omega
  · omega
/-- Behind the spot nothing stands ahead of the filter. -/
theorem spotA_behind {f : ByteArray} : ∀ {l : List AskV} {i : Nat} {a : AskV}, InOrder l → spotA f l ≤ i → l[i]? = some a → ¬ cmpT a.flt f < 0
  | [], i, a, _, _, h2 => by simp at h2
  | x :: l, i, a, ho, h, h2 => by
    obtain ⟨o1, o2⟩ := List.pairwise_cons.1 ho
    rw [spotA] at h
    split at h
    · obtain ⟨j, rfl⟩ : ∃ j, i = j + 1 := ⟨i - 1, by omega⟩
      rw [List.getElem?_cons_succ] at h2
      exact spotA_behind (l := l) o2 (by omega) h2
    · rename_i hx
      cases i with
      | zero =>
        injection h2 with h2
        subst h2
        exact hx
      | succ i =>
        rw [List.getElem?_cons_succ] at h2
        have := o1 a (List.mem_of_getElem? h2)
        intro hlt
        exact hx (cmpT_lt this (Int.le_of_lt hlt))
theorem spotA_iff {f : ByteArray} {l : List AskV} {i : Nat} {a : AskV} (ho : InOrder l) (ha : l[i]? = some a) : cmpT a.flt f < 0 ↔ i < spotA f l :=
  ⟨fun h => by
    by_cases hi : i < spotA f l
    · exact hi
    · exact absurd h (spotA_behind ho (by omega) ha), fun h => spotA_ahead h ha⟩
theorem hasA_at {f : ByteArray} {l : List AskV} {a : AskV} (ha : l[spotA f l]? = some a) : cmpT a.flt f = 0 ↔ hasA l f = true := by
  unfold hasA
  rw [ha, cmpT_zero]
  simp
theorem hasA_lt {f : ByteArray} {l : List AskV} (h : hasA l f = true) : spotA f l < l.length := by
  unfold hasA at h
  split at h
  · rename_i e
    exact (List.getElem?_eq_some_iff.1 e).1
  · cases h
/-- A filter behind all. -/
theorem spotA_end {f : ByteArray} : ∀ {l : List AskV}, (∀ a ∈ l, cmpT a.flt f < 0) → spotA f l = l.length
  | [], _ => rfl
  | x :: l, h => by rw [spotA, if_pos (h x List.mem_cons_self), spotA_end (l := l) (fun a ha => h a (List.mem_cons_of_mem _ ha)), List.length_cons]

def subW (S : Ses) (a : AskV) : Ses × Int :=
  if right a = false then (S, 128)
  else if hasA S.subs a.flt = true then ({ S with subs := S.subs.set (spotA a.flt S.subs) a }, a.qos)
  else if S.subs.length < S.most then ({ S with subs := S.subs.take (spotA a.flt S.subs) ++ a :: S.subs.drop (spotA a.flt S.subs) }, a.qos)
  else (S, 128)
def unsW (S : Ses) (f : ByteArray) : Ses × Bool :=
  if hasA S.subs f = true then ({ S with subs := S.subs.take (spotA f S.subs) ++ S.subs.drop (spotA f S.subs + 1) }, true) else (S, false)
def delivW (S : Ses) (m : MsgV) : Ses × List Pk × Bool :=
  if m.qos = 0 then (if S.win.on = true then (S, [⟨3, 0, false, m⟩], true) else (S, [], false))
  else if sendable m = true then ({ S with win := (sendW S.win m).1 }, (sendW S.win m).2.1, (sendW S.win m).2.2)
  else (S, [], false)
def noteW (S : Ses) (id : Int) : Ses × Bool :=
  if S.noted.contains id = true ∨ isId id = false then (S, false) else ({ S with noted := S.noted ++ [id] }, true)
def relsW (S : Ses) (id : Int) : Ses × Bool := ({ S with noted := S.noted.erase id }, S.noted.contains id)

/-! ### The order is kept. -/
theorem InOrder.set {l : List AskV} {i : Nat} {a b : AskV} (h : InOrder l) (hb : l[i]? = some b) (he : a.flt = b.flt) : InOrder (l.set i a) := by
  have e : (l.set i a).map (·.flt) = l.map (·.flt) := by
    apply List.ext_getElem?
    intro j
    rw [List.getElem?_map, List.getElem?_map, List.getElem?_set]
    split
    · next hj =>
      subst hj
      have hlt := (List.getElem?_eq_some_iff.1 hb).1
      rw [if_pos hlt, hb]
      simp [he]
    · rfl
  unfold InOrder at h ⊢
  have h2 := (List.pairwise_map (f := fun a : AskV => a.flt) (R := fun x y => cmpT x y < 0)).2 h
  rw [← e] at h2
  exact List.pairwise_map.1 h2
theorem InOrder.insert {l : List AskV} {a : AskV} (h : InOrder l) (hn : hasA l a.flt = false) : InOrder (l.take (spotA a.flt l) ++ a :: l.drop (spotA a.flt l)) := by
  have hx : ∀ y ∈ l.drop (spotA a.flt l), cmpT a.flt y.flt < 0 := by
    intro y hy
    obtain ⟨j, hj⟩ := List.getElem?_of_mem hy
    rw [List.getElem?_drop] at hj
    have h1 := spotA_behind (f := a.flt) h (Nat.le_add_right _ _) hj
    have h2 := cmpT_rev y.flt a.flt
    have h3 := cmpT_cases y.flt a.flt
    by_cases h0 : cmpT y.flt a.flt = 0
    · exfalso
      cases j with
      | zero =>
        rw [Nat.add_zero] at hj
        have := (hasA_at hj).1 h0
        rw [hn] at this
        cases this
      | succ j =>
        have hlt : spotA a.flt l < l.length := by have := (List.getElem?_eq_some_iff.1 hj).1; omega
        obtain ⟨z, hz⟩ : ∃ z, l[spotA a.flt l]? = some z := ⟨_, List.getElem?_eq_getElem hlt⟩
        have h4 := spotA_stop hz
        obtain ⟨hj1, hj2⟩ := List.getElem?_eq_some_iff.1 hj
        obtain ⟨hz1, hz2⟩ := List.getElem?_eq_some_iff.1 hz
        have h5 := List.pairwise_iff_getElem.1 h _ _ hz1 hj1 (by omega)
        rw [hz2, hj2] at h5
        rw [cmpT_zero] at h0
        rw [h0] at h5
        exact h4 h5
    · omega
  have hp : ∀ x ∈ l.take (spotA a.flt l), cmpT x.flt a.flt < 0 := by
    intro x hx
    obtain ⟨j, hj⟩ := List.getElem?_of_mem hx
    rw [List.getElem?_take] at hj
    split at hj
    · exact spotA_ahead (by assumption) hj
    · cases hj
  refine List.pairwise_append.2 ⟨h.sublist (List.take_sublist _ _), List.pairwise_cons.2 ⟨hx, h.sublist (List.drop_sublist _ _)⟩, fun x hx2 y hy => ?_⟩
  rcases List.mem_cons.1 hy with rfl | hy
  · exact hp x hx2
  · exact cmpT_lt (hp x hx2) (Int.le_of_lt (hx y hy))
theorem InOrder.erase {l : List AskV} {i : Nat} (h : InOrder l) : InOrder (l.take i ++ l.drop (i + 1)) := by
  have := List.eraseIdx_sublist l i
  rw [List.eraseIdx_eq_take_drop_succ] at this
  exact h.sublist this

/-- What is asked of a session. -/
structure GoodS (S : Ses) : Prop where
  order : InOrder S.subs
  most : S.most ≤ 65536
  len : S.subs.length ≤ S.most
  size : ∀ a ∈ S.subs, a.flt.size ≤ 1000000000
end Go.Proofs.Sw

/- Plain: a session in memory: its struct, its filters' row, the set of the numbers noted, its window. No code walked. -/
namespace Go.Proofs.Ytppndkbicekkjaa
open Go Go.RowKit Go.Proofs.Gs Go.Proofs.Rt Go.Proofs.Sw
open Go.Proofs.Cc (Turn Grow)

def asCells (a : AskV) : List Value := [.string a.flt, .int .i64 a.qos]
def subCells (l : List AskV) : List Value := l.flatMap asCells
theorem subCells_len (l : List AskV) : (subCells l).length = l.length * 2 := by
  unfold subCells
  induction l with
  | nil => rfl
  | cons a l ih => rw [List.flatMap_cons, List.length_append, ih, List.length_cons]; simp [asCells]; omega
theorem subCells_one (l : List AskV) : ∀ u ∈ subCells l, u.oneCell' = true := by
  intro u hu
  obtain ⟨a, _, ha⟩ := List.mem_flatMap.1 hu
  simp [asCells] at ha
  rcases ha with rfl | rfl <;> rfl
theorem subCells_take (l : List AskV) : ∀ i, (subCells l).take (i * 2) = subCells (l.take i) := by
  induction l with
  | nil => intro i; simp [subCells]
  | cons a l ih =>
    intro i
    cases i with
    | zero => simp [subCells]
    | succ i =>
      have e : (i + 1) * 2 = (asCells a).length + i * 2 := by simp [asCells]; omega
      unfold subCells at ih ⊢
      rw [List.flatMap_cons, e, List.take_length_add_append, ih, List.take_succ_cons, List.flatMap_cons]
theorem subCells_drop (l : List AskV) : ∀ i, (subCells l).drop (i * 2) = subCells (l.drop i) := by
  induction l with
  | nil => intro i; simp [subCells]
  | cons a l ih =>
    intro i
    cases i with
    | zero => simp [subCells]
    | succ i =>
      have e : (i + 1) * 2 = (asCells a).length + i * 2 := by simp [asCells]; omega
      unfold subCells at ih ⊢
      rw [List.flatMap_cons, e, List.drop_length_add_append, ih, List.drop_succ_cons]
theorem subCells_get {l : List AskV} : ∀ {i : Nat} {a : AskV}, l[i]? = some a → (subCells l)[i * 2]? = some (.string a.flt) ∧ (subCells l)[i * 2 + 1]? = some (.int .i64 a.qos) := by
  induction l with
  | nil => intro i a h; simp at h
  | cons x l ih =>
    intro i a h
    cases i with
    | zero => simp at h; subst h; exact ⟨rfl, rfl⟩
    | succ i =>
      simp at h
      obtain ⟨h1, h2⟩ := ih h
      have e : ∀ k, (subCells (x :: l))[k + 2]? = (subCells l)[k]? := fun k => by
        unfold subCells
        rw [List.flatMap_cons]
        rfl
      exact ⟨by rw [show (i + 1) * 2 = i * 2 + 2 by omega, e]; exact h1, by rw [show (i + 1) * 2 + 1 = i * 2 + 1 + 2 by omega, e]; exact h2⟩

/-- The numbers noted, as a set in memory. -/
def NotedAt (w : World) (nb : Nat) (acc : List Int) : Prop :=
  ∃ D : DataW Unit, w.ownsMap Try.prog 3 (unitElem (H := Unit)) nb acc.length D ∧ (∀ k : Int, Maps.has D (.int .i64 k) = acc.contains k) ∧ Maps.size D = acc.length ∧ acc.Nodup
theorem NotedAt.keep {w w' : World} {nb : Nat} {acc : List Int} (h : NotedAt w nb acc) (hs : w'.heap[nb]? = w.heap[nb]?) : NotedAt w' nb acc := by
  obtain ⟨D, ⟨es, clock, hb, r⟩, h2⟩ := h
  exact ⟨D, ⟨es, clock, hs.trans hb, r⟩, h2⟩

/-- A session in memory, with all its blocks named. -/
structure SesIn (M F : Nat → Prop) (w : World) (sb : Nat) (S : Ses) (Mw : Nat → Prop) (wb rb nb : Nat) (fv wv sv : Value) : Prop where
  row : w.heap[sb]? = some (.cells #[.pointer (some ⟨wb, 0, none⟩), .string S.key, .bool S.lasting, .int .i64 S.most, sv, .map (some nb)] 36 (0, 0))
  win : WinAt Mw F w wb S.win fv wv rb
  mw : ∀ x, Mw x → M x ∧ x ≠ sb ∧ x ≠ nb ∧ sv.ownBlock ≠ some x
  subs : w.ownsRow 0 59 2 sv S.subs.length (subCells S.subs)
  ms : ∀ b, sv.ownBlock = some b → M b ∧ b ≠ sb ∧ b ≠ nb
  noted : NotedAt w nb S.noted
  mb : M sb
  mn : M nb ∧ nb ≠ sb
  lim : ∀ x, M x → x < w.heap.size
  hF : ∀ b, F b → b < w.heap.size ∧ ¬ M b
/-- A session in memory. -/
def SesAt (M F : Nat → Prop) (w : World) (sb : Nat) (S : Ses) : Prop := ∃ Mw wb rb nb fv wv sv, SesIn M F w sb S Mw wb rb nb fv wv sv

theorem ownsRow_keep {w w' : World} {Z : Nat} {E : TypeId} {k n : Nat} {v : Value} {xs : List Value} (h : w.ownsRow Z E k v n xs) (hs : ∀ b, v.ownBlock = some b → w'.heap[b]? = w.heap[b]?) : w'.ownsRow Z E k v n xs := by
  refine ⟨h.1, ?_⟩
  rcases h.2 with h2 | ⟨g, cap, cur, e, h1, h3, h4⟩
  · exact .inl h2
  · exact .inr ⟨g, cap, cur, e, h1, (hs g (by rw [e]; rfl)).trans h3, h4⟩
theorem ownsRow_bound {w : World} {Z : Nat} {E : TypeId} {k n : Nat} {v : Value} {xs : List Value} (h : w.ownsRow Z E k v n xs) {b : Nat} (hb : v.ownBlock = some b) : Z ≤ b ∧ b < w.heap.size := by
  rcases h.2 with ⟨e, _⟩ | ⟨g, cap, cur, e, h1, h3, _⟩
  · rw [e] at hb; simp [Value.ownBlock] at hb
  · rw [e] at hb
    simp [Value.ownBlock] at hb
    subst hb
    exact ⟨h1, (Array.getElem?_eq_some_iff.1 h3).1⟩

theorem SesIn.keep {M F Mw : Nat → Prop} {w w' : World} {sb wb rb nb : Nat} {S : Ses} {fv wv sv : Value} (h : SesIn M F w sb S Mw wb rb nb fv wv sv) (hs : ∀ b, b < w.heap.size → (F b ∨ M b) → w'.heap[b]? = w.heap[b]?) (hsz : w.heap.size ≤ w'.heap.size) : SesIn M F w' sb S Mw wb rb nb fv wv sv := by
  have hm : ∀ b, M b → w'.heap[b]? = w.heap[b]? := fun b hb => hs b (h.lim b hb) (.inr hb)
  exact ⟨(hm sb h.mb).trans h.row, h.win.keep (fun b hb hx => hs b hb (hx.imp id (fun x => (h.mw b x).1))) hsz, h.mw, ownsRow_keep h.subs (fun b e => hm b (h.ms b e).1), h.ms, h.noted.keep (hm nb h.mn.1), h.mb, h.mn, fun x hx => by have := h.lim x hx; omega, fun b hb => ⟨by have := (h.hF b hb).1; omega, (h.hF b hb).2⟩⟩
theorem SesIn.below {M F Mw : Nat → Prop} {w w' : World} {sb wb rb nb : Nat} {S : Ses} {fv wv sv : Value} (h : SesIn M F w sb S Mw wb rb nb fv wv sv) (hb : Below w.heap.size w w') : SesIn M F w' sb S Mw wb rb nb fv wv sv := h.keep (fun b hlt _ => hb.block b hlt) hb.size
theorem SesAt.below {M F : Nat → Prop} {w w' : World} {sb : Nat} {S : Ses} (h : SesAt M F w sb S) (hb : Below w.heap.size w w') : SesAt M F w' sb S := by
  obtain ⟨Mw, wb, rb, nb, fv, wv, sv, h⟩ := h
  exact ⟨Mw, wb, rb, nb, fv, wv, sv, h.below hb⟩
theorem SesAt.lim {M F : Nat → Prop} {w : World} {sb : Nat} {S : Ses} (h : SesAt M F w sb S) : ∀ x, M x → x < w.heap.size := by
  obtain ⟨Mw, wb, rb, nb, fv, wv, sv, h⟩ := h
  exact h.lim
theorem SesAt.hF {M F : Nat → Prop} {w : World} {sb : Nat} {S : Ses} (h : SesAt M F w sb S) : ∀ b, F b → b < w.heap.size ∧ ¬ M b := by
  obtain ⟨Mw, wb, rb, nb, fv, wv, sv, h⟩ := h
  exact h.hF

theorem SesIn.cell {M F Mw : Nat → Prop} {w : World} {sb wb rb nb : Nat} {S : Ses} {fv wv sv : Value} (h : SesIn M F w sb S Mw wb rb nb fv wv sv) (j : Nat) (u : Value) (hu : (#[Value.pointer (some ⟨wb, 0, none⟩), .string S.key, .bool S.lasting, .int .i64 S.most, sv, .map (some nb)] : Array Value)[j]? = some u) : w.cell? ⟨sb, j, none⟩ = some u := cell4' h.row j u hu

/-- What a call leaves of it. -/
structure SesPost (M F M' F' : Nat → Prop) (w w' : World) (sb : Nat) (S' : Ses) : Prop where
  at' : SesAt M' F' w' sb S'
  sub : ∀ x, M x → M' x
  new : ∀ x, M' x → M x ∨ (w.heap.size ≤ x ∧ x < w'.heap.size)
  subF : ∀ x, F x → F' x
  newF : ∀ x, F' x → F x ∨ (w.heap.size ≤ x ∧ x < w'.heap.size)
  turn : Turn M w w'
theorem SesPost.trans {M F M1 F1 M2 F2 : Nat → Prop} {w w1 w2 : World} {sb : Nat} {S1 S2 : Ses} (h : SesPost M F M1 F1 w w1 sb S1) (k : SesPost M1 F1 M2 F2 w1 w2 sb S2) : SesPost M F M2 F2 w w2 sb S2 := by
  have h1 := h.turn.size
  have h2 := k.turn.size
  refine ⟨k.at', fun x hx => k.sub x (h.sub x hx), fun x hx => ?_, fun x hx => k.subF x (h.subF x hx), fun x hx => ?_, h.turn.trans' k.turn (fun x hx => by rcases h.new x hx with hx | hx; exact .inl hx; exact .inr hx.1)⟩
  · rcases k.new x hx with hx | hx
    · rcases h.new x hx with hx | hx
      · exact .inl hx
      · exact .inr ⟨hx.1, by omega⟩
    · exact .inr ⟨by omega, hx.2⟩
  · rcases k.newF x hx with hx | hx
    · rcases h.newF x hx with hx | hx
      · exact .inl hx
      · exact .inr ⟨hx.1, by omega⟩
    · exact .inr ⟨by omega, hx.2⟩
theorem SesPost.refl {M F : Nat → Prop} {w : World} {sb : Nat} {S : Ses} (h : SesAt M F w sb S) : SesPost M F M F w w sb S := ⟨h, fun _ h => h, fun _ h => .inl h, fun _ h => h, fun _ h => .inl h, Turn.refl _ _⟩
theorem SesPost.more {M F M1 F1 : Nat → Prop} {w w1 w2 : World} {sb : Nat} {S1 : Ses} (h : SesPost M F M1 F1 w w1 sb S1) (hb : Below w1.heap.size w1 w2) : SesPost M F M1 F1 w w2 sb S1 :=
  h.trans ⟨h.at'.below hb, fun _ h => h, fun _ h => .inl h, fun _ h => h, fun _ h => .inl h, Turn.of_below hb⟩

/-- The window's call is the session's. -/
theorem SesIn.winPost {M F Mw Mw' F' : Nat → Prop} {w w' : World} {sb wb rb nb : Nat} {S : Ses} {W' : Win} {fv wv sv : Value} (h : SesIn M F w sb S Mw wb rb nb fv wv sv) (k : WinPost Mw F Mw' F' w w' wb rb W') : SesPost M F (fun x => M x ∨ Mw' x) F' w w' sb { S with win := W' } := by
  obtain ⟨fv', wv', hw⟩ := k.at'
  have hsz := k.turn.size
  have hm : ∀ b, b < w.heap.size → ¬ Mw b → w'.heap[b]? = w.heap[b]? := fun b hb hn => k.turn.block b hb hn
  have hnw : ∀ x, M x → ¬ Mw x → ¬ Mw' x := fun x hx hn hx' => by
    rcases k.new x hx' with e | e
    · exact hn e
    · have := h.lim x hx; omega
  have hsb : ¬ Mw sb := fun e => (h.mw sb e).2.1 rfl
  have hnb : ¬ Mw nb := fun e => (h.mw nb e).2.2.1 rfl
  have hsv : ∀ b, sv.ownBlock = some b → ¬ Mw b := fun b e hx => (h.mw b hx).2.2.2 e
  refine ⟨⟨Mw', wb, rb, nb, fv', wv', sv, (hm sb (h.lim _ h.mb) hsb).trans h.row, hw, fun x hx => ⟨.inr hx, fun e => ?_, fun e => ?_, fun e => ?_⟩, ownsRow_keep h.subs (fun b e => hm b (h.lim b (h.ms b e).1) (hsv b e)), fun b e => ⟨.inl (h.ms b e).1, (h.ms b e).2⟩, h.noted.keep (hm nb (h.lim _ h.mn.1) hnb), .inl h.mb, ⟨.inl h.mn.1, h.mn.2⟩, fun x hx => ?_, fun b hb => ⟨(hw.hF b hb).1, fun hx => ?_⟩⟩, fun x hx => .inl hx, fun x hx => ?_, k.subF, k.newF, k.turn.mono (fun x hx => (h.mw x hx).1)⟩
  · subst e; exact hnw _ h.mb hsb hx
  · subst e; exact hnw _ h.mn.1 hnb hx
  · exact hnw x (h.ms x e).1 (hsv x e) hx
  · rcases hx with hx | hx
    · have := h.lim x hx; omega
    · exact hw.lim x hx
  · rcases hx with hx | hx
    · rcases k.newF b hb with hb | hb
      · exact (h.hF b hb).2 hx
      · have := h.lim b hx; omega
    · exact (hw.hF b hb).2 hx
  · rcases hx with hx | hx
    · exact .inl hx
    · rcases k.new x hx with hx | hx
      · exact .inl (h.mw x hx).1
      · exact .inr hx

theorem PksGro.wider {Z : Nat} {M M' F : Nat → Prop} {w : World} {v : Value} {ps : List Pk} (h : PksGro Z M F w v ps) (hM : ∀ x, M' x → M x ∨ x < Z) : PksGro Z M' F w v ps := by
  refine ⟨h.gro.mono eltPk (fun b hb => ⟨hb.1, hb.2.1, fun hm => ?_, hb.2.2.2⟩) (fun b hb => ⟨hb.2.1, hb.2.2.2⟩), fun b e => ⟨fun hm => ?_, (h.out b e).2⟩⟩
  · rcases hM b hm with hm | hm
    · exact hb.2.2.1 hm
    · have := hb.1; omega
  · rcases hM b hm with hm | hm
    · exact (h.out b e).1 hm
    · have := (h.bound e).1; omega
theorem PksGro.session {M Mw' F : Nat → Prop} {w w' : World} {v : Value} {ps : List Pk} (h : PksGro w.heap.size Mw' F w' v ps) (hM : ∀ x, M x → x < w.heap.size) : PksGro w.heap.size (fun x => M x ∨ Mw' x) F w' v ps :=
  h.wider (fun x hx => by rcases hx with hx | hx; exact .inr (hM x hx); exact .inl hx)
end Go.Proofs.Ytppndkbicekkjaa

/- Proved here: the contracts of session's Key, Lasting, isQoS, isID, Note, Release. -/
namespace Go.Proofs.Ytppndkbicekkjaa
open Go Go.RowKit Go.Proofs.Gs Go.Proofs.Rt Go.Proofs.Sw Go.Proofs.Rg
open Go.Proofs.Cc (Turn Grow)

theorem key_any {M F : Nat → Prop} {w : World} {sb : Nat} {S : Ses} (h : SesAt M F w sb S) :
    Calls Try.prog 27 #[.pointer (some ⟨sb, 0, none⟩)] w fun e w' => e = .returned (.string S.key) ∧ w' = w := by
  obtain ⟨Mw, wb, rb, nb, fv, wv, sv, h⟩ := h
  have c1 := h.cell 1 _ rfl
  clear h
  go_enter Try.func27, Try.ntmps27
  go_wp2_with fail
  go_ret
  exact ⟨rfl, rfl⟩
theorem lasting_any {M F : Nat → Prop} {w : World} {sb : Nat} {S : Ses} (h : SesAt M F w sb S) :
    Calls Try.prog 28 #[.pointer (some ⟨sb, 0, none⟩)] w fun e w' => e = .returned (.bool S.lasting) ∧ w' = w := by
  obtain ⟨Mw, wb, rb, nb, fv, wv, sv, h⟩ := h
  have c1 := h.cell 2 _ rfl
  clear h
  go_enter Try.func28, Try.ntmps28
  go_wp2_with fail
  go_ret
  exact ⟨rfl, rfl⟩
theorem isQ_any (q : Int) (w : World) : Calls Try.prog 46 #[.int .i64 q] w fun e w' => e = .returned (.bool (isQ q)) ∧ w' = w := by
  obtain ⟨r, hr⟩ : ∃ r, isQ q = r := ⟨_, rfl⟩
  rw [hr]
  unfold isQ at hr
  by_cases h1 : 0 ≤ q
  · have hd1 : decide (0 ≤ q) = true := decide_eq_true h1
    by_cases h2 : q ≤ 2
    · have hd2 : decide (q ≤ 2) = true := decide_eq_true h2
      rw [hd1, hd2] at hr
      subst hr
      go_enter Try.func46, Try.ntmps46
      go_wp2_with fail
      go_ret
      exact ⟨rfl, rfl⟩
    · have hd2 : decide (q ≤ 2) = false := decide_eq_false h2
      rw [hd1, hd2] at hr
      subst hr
      go_enter Try.func46, Try.ntmps46
      go_wp2_with fail
      go_ret
      exact ⟨rfl, rfl⟩
  · have hd1 : decide (0 ≤ q) = false := decide_eq_false h1
    rw [hd1] at hr
    subst hr
    go_enter Try.func46, Try.ntmps46
    go_wp2_with fail
    go_ret
    exact ⟨rfl, rfl⟩
theorem isId_any (q : Int) (w : World) : Calls Try.prog 58 #[.int .i64 q] w fun e w' => e = .returned (.bool (isId q)) ∧ w' = w := by
  obtain ⟨r, hr⟩ : ∃ r, isId q = r := ⟨_, rfl⟩
  rw [hr]
  unfold isId at hr
  by_cases h1 : 1 ≤ q
  · have hd1 : decide (1 ≤ q) = true := decide_eq_true h1
    by_cases h2 : q ≤ 65535
    · have hd2 : decide (q ≤ 65535) = true := decide_eq_true h2
      rw [hd1, hd2] at hr
      subst hr
      go_enter Try.func58, Try.ntmps58
      go_wp2_with fail
      go_ret
      exact ⟨rfl, rfl⟩
    · have hd2 : decide (q ≤ 65535) = false := decide_eq_false h2
      rw [hd1, hd2] at hr
      subst hr
      go_enter Try.func58, Try.ntmps58
      go_wp2_with fail
      go_ret
      exact ⟨rfl, rfl⟩
  · have hd1 : decide (1 ≤ q) = false := decide_eq_false h1
    rw [hd1] at hr
    subst hr
    go_enter Try.func58, Try.ntmps58
    go_wp2_with fail
    go_ret
    exact ⟨rfl, rfl⟩

theorem keyedI : Go.Maps.Keyed Try.prog 3 := Go.Maps.int_keyed Try.underlying3
theorem zeroU : ∀ w : World, (zeroValue 110).run Try.prog w = .ok (.agg #[]) w := fun w => by kernel_rfl
theorem SesIn.setNoted {M F Mw : Nat → Prop} {w w' : World} {sb wb rb nb : Nat} {S : Ses} {fv wv sv : Value} {acc : List Int} (h : SesIn M F w sb S Mw wb rb nb fv wv sv) (t : Turn (fun x => x = nb) w w') (hn : NotedAt w' nb acc) : SesPost M F M F w w' sb { S with noted := acc } := by
  have hsz := t.size
  have hm : ∀ b, M b → b ≠ nb → w'.heap[b]? = w.heap[b]? := fun b hb hne => t.block b (h.lim b hb) hne
  refine ⟨⟨Mw, wb, rb, nb, fv, wv, sv, (hm sb h.mb (Ne.symm h.mn.2)).trans h.row, h.win.keep (fun b hb hx => t.block b hb (fun e => by rcases hx with hx | hx; exact (h.hF b hx).2 (e ▸ h.mn.1); exact (h.mw b hx).2.2.1 e)) hsz, h.mw, ownsRow_keep h.subs (fun b e => hm b (h.ms b e).1 (h.ms b e).2.2), h.ms, hn, h.mb, h.mn, fun x hx => by have := h.lim x hx; omega, fun b hb => ⟨by have := (h.hF b hb).1; omega, (h.hF b hb).2⟩⟩, fun _ h => h, fun _ h => .inl h, fun _ h => h, fun _ h => .inl h, t.mono (fun x e => e ▸ h.mn.1)⟩

theorem noted_put {w w' : World} {nb n n' : Nat} {acc : List Int} {id : Int} {D : DataW Unit} (hown : w.ownsMap Try.prog 3 (unitElem (H := Unit)) nb n D) (hD : ∀ k : Int, Maps.has D (.int .i64 k) = acc.contains k) (hz : Maps.size D = acc.length) (hd : acc.Nodup) (hno : acc.contains id = false)
    (hown' : w'.ownsMap Try.prog 3 (unitElem (H := Unit)) nb n' (D.put (.int .i64 id) (.agg []))) : NotedAt w' nb (acc ++ [id]) := by
  have hs : Maps.size (D.put (.int .i64 id) (.agg [])) = (acc ++ [id]).length := by
    rw [Maps.size_put (hown.tidy keyedI), hD, hno, hz, List.length_append, List.length_singleton]
    simp
  have h2 := Cc.ownsMap_tight hown'
  rw [hs] at h2
  refine ⟨_, h2, fun k => ?_, hs, ?_⟩
  · by_cases hk : k = id
    · subst hk
      rw [Maps.has_put_same (hown.tidy keyedI).isMap (by trivial)]
      simp
    · rw [Maps.has_put_other (by intro e; injection e with _ e; exact hk e), hD, Bool.eq_iff_iff, List.contains_iff_mem, List.contains_iff_mem]
      simp [hk]
  · refine List.nodup_append.2 ⟨hd, by simp, fun a ha b hb => ?_⟩
    simp at hb
    rintro rfl
    subst hb
    rw [← Bool.not_eq_true, List.contains_iff_mem] at hno
    exact hno ha
theorem noted_del {w w' : World} {nb n n' : Nat} {acc : List Int} {id : Int} {D : DataW Unit} (hown : w.ownsMap Try.prog 3 (unitElem (H := Unit)) nb n D) (hD : ∀ k : Int, Maps.has D (.int .i64 k) = acc.contains k) (hz : Maps.size D = acc.length) (hd : acc.Nodup)
    (hown' : w'.ownsMap Try.prog 3 (unitElem (H := Unit)) nb n' (D.del (.int .i64 id))) : NotedAt w' nb (acc.erase id) := by
  have hs : Maps.size (D.del (.int .i64 id)) = (acc.erase id).length := by
    have h1 := Maps.size_del (hown.tidy keyedI) (k := .int .i64 id)
    rw [hD, hz] at h1
    by_cases hc : acc.contains id = true
    · rw [hc] at h1
      rw [List.length_erase_of_mem (List.contains_iff_mem.1 hc)]
      simp at h1
      omega
    · rw [if_neg hc] at h1
      rw [List.erase_of_not_mem (fun hm => hc (List.contains_iff_mem.2 hm))]
      omega
  have h2 := Cc.ownsMap_tight hown'
  rw [hs] at h2
  refine ⟨_, h2, fun k => ?_, hs, hd.sublist (List.erase_sublist)⟩
  by_cases hk : k = id
  · subst hk
    rw [Maps.has_del_same]
    symm
    rw [← Bool.not_eq_true, List.contains_iff_mem, List.Nodup.mem_erase_iff hd]
    simp
  · rw [Maps.has_del_other (by intro e; injection e with _ e; exact hk e), hD, Bool.eq_iff_iff, List.contains_iff_mem, List.contains_iff_mem, List.Nodup.mem_erase_iff hd]
    simp [hk]

theorem turn_of_map {w w' : World} {nb : Nat} (h : w.mapTurned w' nb) : Turn (fun x => x = nb) w w' := by
  have g := h.grown
  exact ⟨g.os, g.tape, g.output, g.size, fun k hk hne => g.block k hk (fun e => hne (by injection e))⟩

set_option maxHeartbeats 1000000 in
set_option maxRecDepth 100000 in
theorem note_any {M F : Nat → Prop} {w : World} {sb : Nat} {S : Ses} (h : SesAt M F w sb S) (id : Int) (hid : (Lit.int .i64 id).wf = true) (hl : S.noted.length ≤ 100000) :
    Calls Try.prog 31 #[.pointer (some ⟨sb, 0, none⟩), .int .i64 id] w fun e w' => e = .returned (.bool (noteW S id).2) ∧ SesPost M F M F w w' sb (noteW S id).1 := by
  obtain ⟨Mw, wb, rb, nb, fv, wv, sv, h⟩ := h
  have c5 : w.cell? ⟨sb, 5, none⟩ = some (.map (some nb)) := h.cell 5 _ rfl
  have hkey := Maps.keyOf_int_mk Try.underlying3 hid
  obtain ⟨D, hown, hD, hz, hd⟩ := h.noted
  have hhas := hD id
  have HD := Lib.hid (And.intro hD (And.intro hz hd))
  have HH := Lib.hid h
  have HL := Lib.hid hl
  have hba : Below w.heap.size w (w.alloc (.cells #[] 110)) := (Below.refl _ _).alloc (Nat.le_refl _) _
  have HBA := Lib.hid hba
  have hownA := hown.alloc (.cells #[] 110)
  have c5A := cell_below' hba c5
  have HOW := Lib.hid hown
  obtain ⟨N, hN⟩ : ∃ N, noteW S id = N := ⟨_, rfl⟩
  rw [hN]
  unfold noteW at hN
  cases hc : S.noted.contains id with
  | true =>
    rw [hc] at hhas
    rw [if_pos (.inl hc)] at hN
    have HN := Lib.hid hN
    clear h hD hl hN hc hz hd hba
    go_enter Try.func31, Try.ntmps31
    go_wp2_with (at_lookup; refine wpList_lookup_own_unit _ rfl _ _ 34 rfl 3 110 keyedI Try.underlying34 (zeroU _) nb _ D rfl hown _ _ rfl hkey ?_)
    go_ret
    rw [← HN.out]
    exact ⟨rfl, (SesPost.refl ⟨Mw, wb, rb, nb, fv, wv, sv, HH.out⟩).more HBA.out⟩
  | false =>
    rw [hc] at hhas
    have HC := Lib.hid hc
    cases hi : isId id with
    | false =>
      rw [if_pos (.inr hi)] at hN
      have HN := Lib.hid hN
      have HI := Lib.hid (fun W => isId_any id W)
      rw [hi] at HI
      clear h hD hl hN hc hz hd hba hi
      go_enter Try.func31, Try.ntmps31
      go_wp2_with (at_lookup; refine wpList_lookup_own_unit _ rfl _ _ 34 rfl 3 110 keyedI Try.underlying34 (zeroU _) nb _ D rfl hown _ _ rfl hkey ?_)
      refine (HI.out _).mono ?_
      rintro e w1 ⟨rfl, rfl⟩
      go_wp2_with fail
      go_ret
      rw [← HN.out]
      exact ⟨rfl, (SesPost.refl ⟨Mw, wb, rb, nb, fv, wv, sv, HH.out⟩).more HBA.out⟩
    | true =>
      rw [if_neg (by rw [hc, hi]; simp)] at hN
      have HN := Lib.hid hN
      have HI := Lib.hid (fun W => isId_any id W)
      rw [hi] at HI
      have hnm : S.noted.length < maxLen := by unfold maxLen; omega
      clear h hD hl hN hc hz hd hba hi
      go_enter Try.func31, Try.ntmps31
      go_wp2_with (at_lookup; refine wpList_lookup_own_unit _ rfl _ _ 34 rfl 3 110 keyedI Try.underlying34 (zeroU _) nb _ D rfl hown _ _ rfl hkey ?_)
      refine (HI.out _).mono ?_
      rintro e w1 ⟨rfl, rfl⟩
      go_wp2_with (at_mapUpdate; refine wpList_mapUpdate_in _ rfl _ _ _ 34 rfl 3 110 keyedI Try.underlying34 (unitElem (H := Unit)) nb _ D rfl hownA hnm _ _ (.int .i64 id) rfl rfl hkey (.agg []) [] unitElem_mk ?_; intro w3 hown3 hturn3)
      have hpost := (SesPost.refl ⟨Mw, wb, rb, nb, fv, wv, sv, HH.out⟩).more HBA.out |>.trans ((HH.out.below HBA.out).setNoted (turn_of_map hturn3) (noted_put HOW.out HD.out.1 HD.out.2.1 HD.out.2.2 HC.out hown3))
      have HPOST := Lib.hid hpost
      clear hown3 hturn3 hpost
      go_wp2_with fail
      go_ret
      rw [← HN.out]
      exact ⟨rfl, HPOST.out⟩

set_option maxHeartbeats 1000000 in
set_option maxRecDepth 100000 in
theorem release_any {M F : Nat → Prop} {w : World} {sb : Nat} {S : Ses} (h : SesAt M F w sb S) (id : Int) (hid : (Lit.int .i64 id).wf = true) :
    Calls Try.prog 32 #[.pointer (some ⟨sb, 0, none⟩), .int .i64 id] w fun e w' => e = .returned (.bool (relsW S id).2) ∧ SesPost M F M F w w' sb (relsW S id).1 := by
  obtain ⟨Mw, wb, rb, nb, fv, wv, sv, h⟩ := h
  have c5 : w.cell? ⟨sb, 5, none⟩ = some (.map (some nb)) := h.cell 5 _ rfl
  have hkey := Maps.keyOf_int_mk Try.underlying3 hid
  obtain ⟨D, hown, hD, hz, hd⟩ := h.noted
  have hhas := hD id
  have HD := Lib.hid (And.intro hD (And.intro hz hd))
  have HH := Lib.hid h
  have hba : Below w.heap.size w (w.alloc (.cells #[] 110)) := (Below.refl _ _).alloc (Nat.le_refl _) _
  have HBA := Lib.hid hba
  have hownA := hown.alloc (.cells #[] 110)
  have c5A := cell_below' hba c5
  have HOW := Lib.hid hown
  have hN : relsW S id = ({ S with noted := S.noted.erase id }, S.noted.contains id) := rfl
  rw [hN]
  obtain ⟨b, hb⟩ : ∃ b, S.noted.contains id = b := ⟨_, rfl⟩
  rw [hb] at hhas ⊢
  clear h hD hN hz hd hba hb
  go_enter Try.func32, Try.ntmps32
  go_wp2_with (first | (at_lookup; refine wpList_lookup_own_unit _ rfl _ _ 34 rfl 3 110 keyedI Try.underlying34 (zeroU _) nb _ D rfl hown _ _ rfl hkey ?_) | (at_delete; refine wpList_delete_own _ rfl _ _ 34 3 rfl 110 keyedI Try.underlying34 _ nb _ D rfl hownA _ _ rfl hkey ?_; intro w3 hown3 hturn3))
  have hpost := (SesPost.refl ⟨Mw, wb, rb, nb, fv, wv, sv, HH.out⟩).more HBA.out |>.trans ((HH.out.below HBA.out).setNoted (turn_of_map hturn3) (noted_del HOW.out HD.out.1 HD.out.2.1 HD.out.2.2 hown3))
  have HPOST := Lib.hid hpost
  clear hown3 hturn3 hpost
  go_ret
  exact ⟨rfl, HPOST.out⟩
end Go.Proofs.Ytppndkbicekkjaa

/- Proved here: the contract of window's Send, of a message above quality 0. -/
namespace Go.Proofs.Ytppndkbicekkjaa
open Go Go.RowKit Go.Proofs.Gs Go.Proofs.Rt Go.Proofs.Sw Go.Proofs.Rg
open Go.Proofs.Cc (Turn Grow)

set_option maxHeartbeats 2000000 in
set_option maxRecDepth 100000 in
theorem send_any {M F G : Nat → Prop} {w : World} {wb rb : Nat} {W : Win} {fv wv v : Value} {m : MsgV} (h : WinAt M F w wb W fv wv rb) (hs : Small W) (hv : MsgVal G w v m) (hG : ∀ b, G b → b < w.heap.size ∧ ¬ M b) (hn : m.pay.length ≤ 1000000000) (hq : sendable m = true) :
    Calls Try.prog 35 #[.pointer (some ⟨wb, 0, none⟩), v] w fun e w' => ∃ v' M' F', e = .returned (.tuple #[v', .bool (sendW W m).2.2, .int .i64 0]) ∧ PksGro w.heap.size M' F' w' v' (sendW W m).2.1 ∧ WinPost M F M' F' w w' wb rb (sendW W m).1 := by
  obtain ⟨pv, rfl, hp⟩ := hv
  obtain ⟨pa, pc, rfl⟩ := pay_slice hp
  obtain ⟨pn, hpn⟩ : ∃ pn, m.pay.length = pn := ⟨_, rfl⟩
  obtain ⟨W0, hW0⟩ : ∃ W0, w.alloc (.cells #[.string m.topic, .slice pa pn pc, .int .i64 m.qos, .bool m.ret] 41) = W0 := ⟨_, rfl⟩
  have g0 : W0.heap[w.heap.size]? = some (.cells #[.string m.topic, .slice pa pn pc, .int .i64 m.qos, .bool m.ret] 41 (0, 0)) := by rw [← hW0]; exact (MapKept.heap_alloc w _).1
  have hb0 : Below w.heap.size w W0 := by rw [← hW0]; exact (Below.refl _ _).alloc (Nat.le_refl _) _
  have hs0 : W0.heap.size = w.heap.size + 1 := by rw [← hW0]; simp
  have y0 := cell4' g0 0 _ rfl
  have y1 := cell4' g0 1 _ rfl
  have y2 := cell4' g0 2 _ rfl
  have y3 := cell4' g0 3 _ rfl
  obtain ⟨fa, fc, rfl⟩ := h.fslice
  obtain ⟨wa, wc, rfl⟩ := h.wslice
  have h0 := h.below hb0
  obtain ⟨T, hT⟩ : ∃ T, sendW W m = T := ⟨_, rfl⟩
  rw [hpn, hT]
  have HQ := Lib.hid (fun (X : World) => sendable_any (w := X) (m := m) (pv := .slice pa pn pc) (n := pn) ⟨pa, pc, rfl⟩)
  simp only [hq] at HQ
  have HLA := Lib.hid (fun (X : World) (hb : Below W0.heap.size W0 X) => launch_any (G := G) (v := .agg #[.string m.topic, .slice pa pn pc, .int .i64 m.qos, .bool m.ret]) (h0.below hb) ⟨_, rfl, by have h1 := (hp.keep (Same.below hb0)).keep (Same.below hb); rw [hpn] at h1 ⊢; exact h1⟩ (fun b hx => ⟨by have := (hG b hx).1; have := hb.size; omega, (hG b hx).2⟩) (by have := hs.fl; have := hs.win; omega) hs.last hn)
  have HOWN := Lib.hid (fun (X : World) (hb : Below W0.heap.size W0 X) => own_any (F := G) (w := X) (v := .agg #[.string m.topic, .slice pa pn pc, .int .i64 m.qos, .bool m.ret]) (m := m) ⟨_, rfl, by
    have h1 := (hp.keep (Same.below hb0)).keep (Same.below hb)
    rw [hpn] at h1 ⊢
    exact h1⟩ hn)
  have HH0 := Lib.hid h0
  have HH := Lib.hid h
  have HS := Lib.hid hs
  have HPN := Lib.hid hpn
  have HB0 := Lib.hid hb0
  have HS0 := Lib.hid hs0
  have HW0 := Lib.hid hW0
  have HT := Lib.hid hT
  have c0 : W0.cell? ⟨wb, 0, none⟩ = some (.int .i64 (W.win : Nat)) := h0.cell 0 _ rfl
  have c1 : W0.cell? ⟨wb, 1, none⟩ = some (.int .i64 (W.que : Nat)) := h0.cell 1 _ rfl
  have c3 : W0.cell? ⟨wb, 3, none⟩ = some (.slice fa W.fl.length fc) := h0.cell 3 _ rfl
  have c4 : W0.cell? ⟨wb, 4, none⟩ = some (.slice wa W.wt.length wc) := h0.cell 4 _ rfl
  have c6 : W0.cell? ⟨wb, 6, none⟩ = some (.bool W.on) := h0.cell 6 _ rfl
  clear h hs hp hpn hW0 g0 hb0 hs0 h0 hT hn hq
  go_enter Try.func35, Try.ntmps35
  go_upto_region 1 with fail
  rw [HW0.out]
  go_wp2_with fail
  refine (HQ.out _).mono ?_
  rintro e w1 ⟨rfl, hb1⟩
  have HB1 := Lib.hid hb1
  have HH1 := Lib.hid (HH0.out.below hb1)
  have c0 := cell_below' hb1 c0
  have c1 := cell_below' hb1 c1
  have c3 := cell_below' hb1 c3
  have c4 := cell_below' hb1 c4
  have c6 := cell_below' hb1 c6
  have y0 := cell_below' hb1 y0
  have y1 := cell_below' hb1 y1
  have y2 := cell_below' hb1 y2
  have y3 := cell_below' hb1 y3
  clear hb1
  go_upto_region 3 with fail
  go_cut [11] (fun s11 wx => ∃ b, s11 = .bool b ∧ (b = true ↔ W.on = true ∧ W.fl.length < W.win) ∧ Below w1.heap.size w1 wx)
  case first =>
    cases hon : W.on with
    | false =>
      rw [hon] at c6
      go_region
      all_goals
        go_wp2_with fail
        go_meet
      case rel => exact ⟨_, rfl, by simp [hon], (Below.refl _ _).drew⟩
    | true =>
      rw [hon] at c6
      go_region
      all_goals
        go_wp2_with fail
        go_meet
      case rel => exact ⟨_, rfl, by simp [hon], (Below.refl _ _).drew⟩
  case rest =>
    obtain ⟨b, rfl, hb, hbw⟩ := hcut
    have hb1 := HB1.out
    have hb01 : Below W0.heap.size W0 wc := hb1.trans (hbw.mono hb1.size)
    have c1 := cell_below' hbw c1
    have c4 := cell_below' hbw c4
    have y0 := cell_below' hbw y0
    have y1 := cell_below' hbw y1
    have y2 := cell_below' hbw y2
    have y3 := cell_below' hbw y3
    have hwp : WinPost M F M F w wc wb rb W := (WinPost.refl HH.out).more (HB0.out.trans (hb01.mono HB0.out.size))
    have hwz : w.heap.size < wc.heap.size := by have := HS0.out; have := hb01.size; omega
    have hT := HT.out
    unfold sendW at hT
    clear c0 c3 c6 hb1 hbw
    cases b with
    | true =>
      rw [if_pos (hb.1 rfl)] at hT
      subst hT
      have HC := Lib.hid (HLA.out _ hb01)
      have HWP := Lib.hid hwp
      have HWZ := Lib.hid hwz
      clear hb hb01 hwp hwz c1 c4
      go_wp2_with fail
      refine HC.out.mono ?_
      rintro e w5 ⟨pv5, M5, F5, rfl, hp5, hw5⟩
      obtain ⟨hg5, hpo5⟩ := pks_single (p := launchP W m) (Z := w.heap.size) (by have := HWZ.out; have := hw5.turn.size; omega) (HWP.out.trans hw5) rfl (hp5.mono (fun x hx => ⟨by have := hx.1; have := HWZ.out; omega, hx.2⟩))
      have HG5 := Lib.hid hg5
      have HPO := Lib.hid hpo5
      clear hp5 hw5 hg5 hpo5 y0 y1 y2 y3
      go_wp2_with (refine wpList_pk rfl _ rfl _ rfl (by rfl) ?_)
      go_ret3
      exact ⟨_, rfl, M5, F5, HG5.out, HPO.out⟩
    | false =>
      rw [if_neg (fun hx => by have := hb.2 hx; cases this)] at hT
      by_cases hlt : W.wt.length < W.que
      case neg =>
        rw [if_neg hlt] at hT
        subst hT
        have hd : decide (W.wt.length < W.que) = false := decide_eq_false hlt
        obtain ⟨R, hR⟩ : ∃ R, W.wt.length = R := ⟨_, rfl⟩
        obtain ⟨Q, hQ⟩ : ∃ Q, W.que = Q := ⟨_, rfl⟩
        rw [hR] at c4 hd
        rw [hQ] at c1 hd
        have HWP := Lib.hid hwp
        clear hb hb01 hwp hwz hlt hR hQ y0 y1 y2 y3
        go_upto_region 5 with fail
        go_region
        all_goals
          go_wp2_with fail
          go_ret3
          exact ⟨_, rfl, M, F, PksGro.nil _ _ _ _, HWP.out.more ((Below.refl _ _).drew)⟩
      case pos =>
        rw [if_pos hlt] at hT
        subst hT
        have hd : decide (W.wt.length < W.que) = true := decide_eq_true hlt
        obtain ⟨R, hR⟩ : ∃ R, W.wt.length = R := ⟨_, rfl⟩
        obtain ⟨Q, hQ⟩ : ∃ Q, W.que = Q := ⟨_, rfl⟩
        rw [hR] at c4 hd
        rw [hQ] at c1 hd
        have HWP := Lib.hid hwp
        have HB01 := Lib.hid hb01
        have HR := Lib.hid hR
        have HLT := Lib.hid hlt
        have HWZ := Lib.hid hwz
        clear hb hb01 hwp hwz hlt hR hQ
        go_upto_region 5 with fail
        go_region
        go_upto_region 6 with fail
        have z4 := regr_cell (w := wc.drew) c4
        have z0 := regr_cell (w := wc.drew) y0
        have z1 := regr_cell (w := wc.drew) y1
        have z2 := regr_cell (w := wc.drew) y2
        have z3 := regr_cell (w := wc.drew) y3
        refine wp_region_call [0, 1, 2, 3] [4, 5] [] 6 [7, 8, 9, 10, 11] [8, 9, 10, 11] (by kernel_rfl) (by kernel_rfl) (fun _ _ d _ _ h => by cases d <;> exact h) ?_
        simp only [pick, List.filterMap_cons, List.filterMap_nil, List.getElem?_toArray, List.getElem?_cons_zero, List.getElem?_cons_succ]
        repeat (first | (with_reducible refine wpQuiet_nil ?_) | quiet_step (fail))
        intro V1 hV1
        refine wpOp_do rfl rfl ?_
        have hV1' : Below wc.heap.size wc V1 := ((Below.refl _ wc).drew).trans hV1
        have HCALL := Lib.hid (HOWN.out V1 (HB01.out.trans (hV1'.mono HB01.out.size)))
        clear z0 z1 z2 z3 z4
        go_simp
        go_at_call 65
        refine HCALL.out.mono ?_
        rintro e w5 ⟨v5, rfl, hv5, hb5⟩
        obtain ⟨pv5, rfl, hp5⟩ := hv5
        obtain ⟨pa5, pc5, rfl⟩ := pay_slice hp5
        have hb5' : Below wc.heap.size wc w5 := hV1'.trans (hb5.mono hV1'.size)
        refine ⟨hV1.trans (hb5.mono hV1.size), ?_⟩
        obtain ⟨cs, hcs⟩ : ∃ cs, mgCells m (.slice pa5 pn pc5) = cs := ⟨_, rfl⟩
        have hlen4 : cs.length = 4 := by rw [← hcs]; rfl
        have hb6 : Below wc.heap.size wc (w5.alloc (.cells cs.toArray 41)) := hb5'.alloc hb5'.size _
        have hs6 : (w5.alloc (.cells cs.toArray 41)).heap.size = w5.heap.size + 1 := by simp
        have hel : ElMg (Fresh V1 w5) (w5.alloc (.cells cs.toArray 41)) cs m := ⟨_, hcs.symm, by have h1 := hp5.keep (Same.below ((Below.refl _ w5).alloc (Nat.le_refl _) (.cells cs.toArray 41))); rw [HPN.out] at h1 ⊢; exact h1⟩
        have hwc := HB01.out.size
        have hs0 := HS0.out
        obtain ⟨na, nc, w6, hrun, k4, kf, hV⟩ := (HH0.out.below HB01.out).moreW hb6 hel (row_one hlen4) (fun b hb => ⟨by have := hb.2; omega, fun hm => by have := HH.out.lim b hm; have := hb.1; have := hV1'.size; omega⟩) (by have := HS.out.wt; have := HS.out.que; omega)
        have HV := Lib.hid hV
        have HB6 := Lib.hid hb6
        have HV1 := Lib.hid hV1'
        have hR := HR.out
        rw [hR] at hrun k4 HV
        have HPN5 := HPN.out
        simp only [HPN5]
        subst hcs
        clear hV hel hlen4 hb6 hs6 hwc hs0 hb5' hV1' hV1 hp5 hb5 hR HPN5
        refine wpList_plain rfl (fun K hK => ?_)
        go_simp
        refine hK _ _ ?_
        clear hK K
        refine Lib.wpList_append_run _ rfl _ _ _ _ rfl _ _ rfl rfl _ _ (hrun _) ?_
        clear hrun c1 c4 y0 y1 y2 y3
        go_wp2_with fail
        obtain ⟨W7, hW7⟩ : ∃ W7, w6.setCell ⟨wb, 4, none⟩ (.slice na (R + 1) nc) = W7 := ⟨_, rfl⟩
        obtain ⟨ha7, hM7, ht7⟩ := HV.out W7 hW7
        (try rw [hW7])
        have hs6 : (w5.alloc (.cells (mgCells m (.slice pa5 pn pc5)).toArray 41)).heap.size = w5.heap.size + 1 := by simp
        have hz := HB6.out.size
        have hz7 := ht7.size
        have hzv := HV1.out.size
        have hfin : WinPost M F (orBlk M (.slice na (R + 1) nc)) (orF F (Fresh V1 w5)) wc W7 wb rb { W with wt := W.wt ++ [m] } := by
          refine ⟨⟨_, _, ha7⟩, fun x hx => .inl hx, fun x hx => ?_, fun x hx => .inl hx, fun x hx => ?_, (Turn.of_below (S := M) HB6.out).trans' ht7 (fun x hx => .inl hx)⟩
          · rcases hM7 x hx with hx | hx
            · exact .inl hx
            · exact .inr ⟨by omega, hx.2⟩
          · rcases hx with hx | hx
            · exact .inl hx
            · exact .inr ⟨by have := hx.1; omega, by have := hx.2; omega⟩
        have HFIN := Lib.hid (HWP.out.trans hfin)
        clear hfin ha7 hM7 ht7 hs6 hz hz7 hzv hW7
        go_ret3
        exact ⟨_, rfl, _, _, PksGro.nil _ _ _ _, HFIN.out⟩
end Go.Proofs.Ytppndkbicekkjaa

/- Plain: clear of a row of one element of several cells. No program in sight. -/
namespace Go.Proofs.Gs
open Go

theorem run_clear_one {P : Program} (w : World) (t e ty : TypeId) (z : Value) (zs : List Value) (ht : P.underlying t = some (.slice e)) (hv : ∀ w, (zeroValue e).run P w = .ok z w) (hz : z.cells = zs.toArray) (h1 : ∀ u ∈ zs, u.oneCell' = true) (b o c : Nat)
    (hc : ∀ j, j < zs.length → (w.cell? ⟨b, o + j, none⟩).isSome = true) (hf : ∀ j, j < zs.length → w.frozen? ⟨b, o + j, none⟩ = false) :
    (Builtin.clear_ #[t] ty #[.slice (some ⟨b, o, none⟩) 1 c]).run P w = .ok (.tuple #[]) (w.setCells b o zs) := by
  have hzc : (Builtin.zeroCells z.cells 1).toList = zs := by
    rw [hz]
    apply List.ext_getElem
    · simp [Builtin.zeroCells]
    · intro i h1 h2
      simp [Builtin.zeroCells, Nat.mod_eq_of_lt h2, List.getElem?_eq_getElem h2]
  have hst := run_storeCells_cells (P := P) b o zs 0 w (by simpa using hc) (by simpa using hf) h1
  simp only [Nat.add_zero] at hst
  simp [Builtin.clear_, run_underlying ht, hv, hzc, hst]
end Go.Proofs.Gs

/- Proved here: slices.Delete of one element out of a row of the call's own ([]crier/window.flight). -/
namespace Go.Proofs.Ytppndkbicekkjaa
open Go Go.RowKit Go.Proofs.Gs Go.Lib Go.Shelf

theorem infoDelL : (Try.prog.info? 86).map (fun i => (i.zero, i.size, i.bytes)) = some (some (.agg #[.int .i64 0, .string ByteArray.empty, .slice none 0 0, .int .i64 0, .bool false, .bool false]), 6, 72) := by kernel_rfl
theorem zeroDelL : ∀ w : World, (zeroValue 86).run Try.prog w = .ok (.agg #[.int .i64 0, .string ByteArray.empty, .slice none 0 0, .int .i64 0, .bool false, .bool false]) w := fun w => by
  obtain ⟨i0, hi0, hz0, hz1, hz2⟩ := info_parts infoDelL
  simp [zeroValue, typeInfo, hi0, hz0]

set_option maxHeartbeats 4000000 in
set_option maxRecDepth 100000 in
theorem delL_any {w : World} {B : Nat} {v : Value} {n i : Nat} {xs : List Value} (hown : w.ownsRow B 86 6 v n xs) (hi : i < n) (hn : n ≤ 1000000000) (h1x : ∀ u ∈ xs, u.oneCell' = true) :
    Calls Try.prog 39 #[v, .int .i64 i, .int .i64 ((i : Int) + 1)] w fun e w' =>
      ∃ v', e = .returned v' ∧ w'.ownsRow B 86 6 v' (n - 1) (xs.take (i * 6) ++ xs.drop ((i + 1) * 6)) ∧ w.grownBy w' v.ownBlock ∧ v'.ownBlock = v.ownBlock := by
  obtain ⟨i0, hi0, hz0, hz1, hz2⟩ := info_parts infoDelL
  have hxl := hown.1
  obtain ⟨g, cap, cur, rfl, hBg, hg, hnc, hcm, hcs, hct⟩ : ∃ g cap cur, v = .slice (some ⟨g, 0, none⟩) n cap ∧ B ≤ g ∧ w.heap[g]? = some (.cells cur 86 (0, 0)) ∧ n ≤ cap ∧ cap ≤ maxLen ∧ cur.size = cap * 6 ∧ cur.toList.take (n * 6) = xs := by
    rcases hown.2 with ⟨rfl, rfl⟩ | h
    · omega
    · exact h
  unfold maxLen at hcm
  have mixed : Try.prog.follows .mixedOrders = true := by kernel_rfl
  have hcl : cur.toList.length = cap * 6 := by simpa using hcs
  have hdl : (xs.drop ((i + 1) * 6)).length = n * 6 - (i + 1) * 6 := by rw [List.length_drop, hxl]
  have hcell : ∀ j u, xs[j]? = some u → w.cell? ⟨g, j, none⟩ = some u := fun j u hu => by
    unfold World.cell?
    simp only [hg]
    rw [← hct, List.getElem?_take] at hu
    split at hu
    · simpa using hu
    · cases hu
  obtain ⟨A, hA, hsrc⟩ : ∃ A : Addr, (if cap = i + 1 then (⟨g, 0, none⟩ : Addr) else ⟨g, (i + 1) * 6, none⟩) = A ∧ Hid (∀ t u, (xs.drop ((i + 1) * 6))[t]? = some u → w.drew.cell? (A.add t) = some u) := by
    by_cases h : cap = i + 1
    · refine ⟨⟨g, 0, none⟩, by simp [h], fun t u hu => ?_⟩
      have h0 : (xs.drop ((i + 1) * 6)).length = 0 := by rw [hdl]; omega
      rw [List.length_eq_zero_iff.1 h0] at hu
      simp at hu
    · refine ⟨⟨g, (i + 1) * 6, none⟩, by simp [h], fun t u hu => ?_⟩
      rw [Addr.add_lit]
      rw [List.getElem?_drop] at hu
      exact hcell _ u hu
  have s1 : Hid ((xs.drop ((i + 1) * 6)).length = (n - (i + 1)) * 6) := by show _ = _; rw [hdl]; omega
  have s2 : Hid (∀ u ∈ xs.drop ((i + 1) * 6), u.oneCell' = true) := fun u hu => h1x u (List.mem_of_mem_drop hu)
  have s3 : Hid (∀ t, t < (xs.drop ((i + 1) * 6)).length → (w.drew.cell? ⟨g, 0 + i * 6 + t, none⟩).isSome = true ∧ w.drew.frozen? ⟨g, 0 + i * 6 + t, none⟩ = false) := fun t ht => by
    rw [hdl] at ht
    refine ⟨?_, by show w.frozen? _ = false; simp [World.frozen?, hg]⟩
    show (w.cell? _).isSome = true
    unfold World.cell?
    simp only [hg]
    rw [Array.getElem?_eq_getElem (by omega)]
    rfl
  obtain ⟨news, hnews⟩ : ∃ news, news = xs.drop ((i + 1) * 6) := ⟨_, rfl⟩
  have hnl : news.length = n * 6 - (i + 1) * 6 := by rw [hnews]; exact hdl
  obtain ⟨W1, hW1⟩ : ∃ W1, W1 = w.drew.setCells g (0 + i * 6) news := ⟨_, rfl⟩
  have hW1' : W1 = w.drew.setRow g (splice cur.toList (i * 6) news).toArray := by
    rw [hW1]
    have := gs_setCells Try.prog (w := w.drew) (g := g) (o := 0 + i * 6) (cur := cur) (t := 86) (vs := news) hg (by rw [hnl]; omega) (by rw [hnews]; exact s2.out)
    rw [this, Nat.zero_add]
  have hg1 : W1.heap[g]? = some (.cells (splice cur.toList (i * 6) news).toArray 86 (0, 0)) := by rw [hW1']; exact setRow_heap w.drew g cur _ _ _ hg
  have hl1 : (splice cur.toList (i * 6) news).length = cap * 6 := by rw [length_splice _ _ _ (by rw [hnl, hcl]; omega)]; exact hcl
  have hgr1 : w.grownBy W1 (some g) := by rw [hW1']; have h := grown_setRow w.drew g (splice cur.toList (i * 6) news).toArray; exact ⟨h.os, h.tape, h.output, h.size, h.block⟩
  have hcv : ∀ ty, (Builtin.clear_ #[82] ty #[.slice (some ⟨g, (i + (n - (i + 1))) * 6, none⟩) (n - (i + (n - (i + 1)))) (cap - (i + (n - (i + 1))))]).run Try.prog W1 = .ok (.tuple #[]) (W1.setCells g ((i + (n - (i + 1))) * 6) [.int .i64 0, .string ByteArray.empty, .slice none 0 0, .int .i64 0, .bool false, .bool false]) := fun ty => by
    have e1 : n - (i + (n - (i + 1))) = 1 := by omega
    rw [e1]
    exact run_clear_one W1 _ _ ty _ [.int .i64 0, .string ByteArray.empty, .slice none 0 0, .int .i64 0, .bool false, .bool false] Try.underlying82 zeroDelL rfl (List.all_eq_true.1 (by rfl)) g ((i + (n - (i + 1))) * 6) _
      (fun t ht => by
        unfold World.cell?
        simp only [hg1]
        rw [Array.getElem?_eq_getElem (by rw [List.size_toArray, hl1]; simp at ht; omega)]
        rfl) (fun t ht => by simp [World.frozen?, hg1])
  have hW2 := gs_setCells Try.prog (w := W1) (g := g) (o := (i + (n - (i + 1))) * 6) (t := 86) (vs := [.int .i64 0, .string ByteArray.empty, .slice none 0 0, .int .i64 0, .bool false, .bool false]) hg1 (by rw [List.size_toArray, hl1]; simp; omega) (List.all_eq_true.1 (by rfl))
  obtain ⟨zs, hzs, hzl⟩ : ∃ zs : List Value, zs = [.int .i64 0, .string ByteArray.empty, .slice none 0 0, .int .i64 0, .bool false, .bool false] ∧ zs.length = 6 := ⟨_, rfl, rfl⟩
  have e0 : (i + (n - (i + 1))) * 6 = (n - 1) * 6 := by rw [show i + (n - (i + 1)) = n - 1 by omega]
  rw [← hzs] at hW2 hcv
  have htk : (splice (splice cur.toList (i * 6) news) ((i + (n - (i + 1))) * 6) zs).take ((n - 1) * 6) = xs.take (i * 6) ++ news := by
    have hti : cur.toList.take (i * 6) = xs.take (i * 6) := by rw [← hct, List.take_take, Nat.min_eq_left (by omega)]
    have hlt : (xs.take (i * 6) ++ news).length = (n - 1) * 6 := by rw [List.length_append, List.length_take, hnl, hxl]; omega
    have e1 : splice cur.toList (i * 6) news = (xs.take (i * 6) ++ news) ++ cur.toList.drop (i * 6 + news.length) := by unfold splice; rw [hti, List.append_assoc]
    have e2 : (splice (splice cur.toList (i * 6) news) ((i + (n - (i + 1))) * 6) zs).take ((n - 1) * 6) = (splice cur.toList (i * 6) news).take ((n - 1) * 6) := by
      rw [e0]
      generalize splice cur.toList (i * 6) news = L at hl1 ⊢
      unfold splice
      rw [List.take_append_of_le_length (by rw [List.length_take]; omega), List.take_take, Nat.min_self]
    rw [e2, e1]
    exact List.take_left' hlt
  have hl2 : (splice (splice cur.toList (i * 6) news) ((i + (n - (i + 1))) * 6) zs).length = cap * 6 := by
    rw [length_splice _ _ _ (by rw [hl1, hzl, e0]; omega), hl1]
  rw [← hnews] at s1 s2 s3 hsrc ⊢
  have HW := Lib.hid hW1
  have HW2 := Lib.hid hW2
  have HT := Lib.hid htk
  have HL := Lib.hid hl2
  have HG := Lib.hid hg1
  have HGR := Lib.hid hgr1
  have HNL := Lib.hid hnl
  have hic : i ≤ cap := by omega
  have hjc : i + 1 ≤ cap := by omega
  have hne : ((i : Int) == (i : Int) + 1) = false := by rw [beq_eq_false_iff_ne]; omega
  have hw1 : IntKind.i64.wrap ((i : Int) + 1) = (i : Int) + 1 := by rw [IntKind.wrap_i64]; omega
  have hb1 : (0 : Int) ≤ (i : Int) + 1 := by omega
  have htn : ((i : Int) + 1).toNat = i + 1 := by omega
  have hb2 : (i : Int) + 1 ≤ (n : Int) := by omega
  have hb3 : (i : Int) + 1 ≤ (cap : Int) := by omega
  have hb4 : i + 1 ≤ n := by omega
  have hb5 : ¬ (cap = i + (n - (i + 1))) := by omega
  clear hW1 hW1' hg1 hl1 hgr1 hW2 htk hl2 hnews hdl hcell hct hcs hcl hg hown hxl h1x hnl e0 hzs hzl
  go_enter Try.func39, Try.ntmps39
  go_wp2_with fail
  go_region_law (refine step_append_room rfl (.tmp 22) (.tmp 25) 82 rfl 86 i0 6 Try.underlying82 hi0 hz1 g 0 i cap (by simp [Act.eval, Act.put]) A (n - (i + 1)) (cap - (i + 1)) news (by simp [Act.eval, Act.put]; first | exact hA | (rw [← hA]; split <;> rfl)) s1.out hsrc.out s2.out (by omega) s3.out ?_; rw [← HW.out])
  all_goals
    go_wp2_with fail
  all_goals
    go_ret
    rw [HW2.out]
    have h2 := grown_setRow W1 g (splice (splice cur.toList (i * 6) news) ((i + (n - (i + 1))) * 6) zs).toArray
    refine ⟨_, rfl, ?_, ⟨h2.os.trans HGR.out.os, h2.tape.trans HGR.out.tape, h2.output.trans HGR.out.output, Nat.le_trans HGR.out.size h2.size, fun x hx hne => (h2.block x (Nat.lt_of_lt_of_le hx HGR.out.size) hne).trans (HGR.out.block x hx hne)⟩, rfl⟩
    have ho := owns_setRow HG.out hBg (m := n - 1) (cap := cap) (k := 6) (by unfold maxLen; omega) _ HL.out (by omega) HT.out
    have e1 : i + (n - (i + 1)) = n - 1 := by omega
    rw [e1] at ho ⊢
    first
      | exact ho
      | (have hc : cap = i + 1 := by assumption
         rw [hc] at ho
         exact ho)
end Go.Proofs.Ytppndkbicekkjaa

/- Proved here: slices.Clone at []crier/window.flight. -/
namespace Go.Proofs.Ytppndkbicekkjaa
open Go Go.RowKit Go.Proofs.Gs

theorem infoCloL : (Try.prog.info? 86).map (fun i => (i.zero, i.size, i.bytes)) = some (some (.agg #[.int .i64 0, .string ByteArray.empty, .slice none 0 0, .int .i64 0, .bool false, .bool false]), 6, 72) := by kernel_rfl

set_option maxHeartbeats 1000000 in
set_option maxRecDepth 100000 in
theorem cloneL_any {w : World} {v : Value} {n : Nat} {xs : List Value} (h : RowAt w 6 v n xs) (hn : n ≤ 1000000001) (h1 : ∀ u ∈ xs, u.oneCell' = true) :
    Calls Try.prog 40 #[v] w fun e w' => ∃ v', e = .returned v' ∧ w'.ownsRow w.heap.size 86 6 v' n xs ∧ Below w.heap.size w w' := by
  obtain ⟨i0, hi0, hz0, hz1, hz2⟩ := info_parts infoCloL
  have hnil := fun (W : World) (a : Option Addr) (l c : Nat) => Go.run_eql_slice_nil (P := Try.prog) W 82 86 a l c Try.underlying82
  have hnew : ∀ W : World, (W.alloc (.cells #[] 86)).ownsRow W.heap.size 86 6 (.slice (some ⟨W.heap.size, 0, none⟩) 0 0) 0 [] := fun W =>
    ⟨by simp, .inr ⟨W.heap.size, 0, #[], rfl, Nat.le_refl _, (MapKept.heap_alloc W _).1, Nat.le_refl _, Nat.zero_le _, by simp, by simp⟩⟩
  have HN := Lib.hid (hnew w)
  have H1 := Lib.hid h1
  have hxl := h.1
  rcases RowAt.cases h with ⟨rfl, rfl, a, cap, rfl, hcm⟩ | ⟨hpos, b, off, cap, rfl, hnc, hcm, hb, hc⟩
  · clear hnew h1 h hxl
    cases a with
    | none =>
      go_enter Try.func40, Try.ntmps40
      go_wp2_with fail
      go_ret
      exact ⟨_, rfl, ⟨by simp, .inl ⟨rfl, rfl⟩⟩, Below.refl _ _⟩
    | some ad =>
      go_enter Try.func40, Try.ntmps40
      go_wp2_with (at_builtin; refine wpList_append_own _ rfl _ _ 82 rfl w.heap.size 86 i0 (.agg #[.int .i64 0, .string ByteArray.empty, .slice none 0 0, .int .i64 0, .bool false, .bool false]) 6 72 Try.underlying82 hi0 hz0 hz1 hz2 rfl (by decide) _ _ _ rfl HN.out ad 0 cap [] rfl (by simp) (by simp) (by simp) ?c2 ?c3 ?c4 ?_)
      case c2 => exact Nat.zero_le _
      case c3 => omega
      case c4 => simp
      intro v' w1 hown1 hgrow _
      have H2 := Lib.hid hown1
      have H3 := Lib.hid hgrow
      clear hown1 hgrow
      go_wp2_with fail
      go_ret
      exact ⟨_, rfl, H2.out, ((Below.refl _ w).alloc (Nat.le_refl _) _).grown H3.out (by simp) (fun x hx => by simp [Value.ownBlock] at hx; omega)⟩
  · have hcb : ∀ j u, xs[j]? = some u → (w.alloc (.cells #[] 86)).cell? ((⟨b, off, none⟩ : Addr).add j) = some u := fun j u hu => by
      rw [Addr.add_lit]
      exact (World.cell?_of_block (w := w) (a := ⟨b, off + j, none⟩) (Below.heap_alloc w _ b hb)).trans (hc j u hu)
    have HC := Lib.hid hcb
    have HX := Lib.hid hxl
    have hm1 : ¬ n = 0 := by omega
    clear hnew h1 h hxl hcb hc
    go_enter Try.func40, Try.ntmps40
    go_wp2_with (at_builtin; refine wpList_append_own _ rfl _ _ 82 rfl w.heap.size 86 i0 (.agg #[.int .i64 0, .string ByteArray.empty, .slice none 0 0, .int .i64 0, .bool false, .bool false]) 6 72 Try.underlying82 hi0 hz0 hz1 hz2 rfl (by decide) _ _ _ rfl HN.out ⟨b, off, none⟩ n cap xs rfl HX.out HC.out H1.out ?c2 ?c3 ?c4 ?_)
    case c2 => unfold maxLen; omega
    case c3 => omega
    case c4 => simp
    intro v' w1 hown1 hgrow _
    have H2 := Lib.hid hown1
    have H3 := Lib.hid hgrow
    clear hown1 hgrow
    go_wp2_with fail
    go_ret
    have h2 := H2.out
    try rw [Nat.zero_add, List.nil_append] at h2
    exact ⟨_, rfl, h2, ((Below.refl _ w).alloc (Nat.le_refl _) _).grown H3.out (by simp) (fun x hx => by simp [Value.ownBlock] at hx; omega)⟩
end Go.Proofs.Ytppndkbicekkjaa

/- Plain: a window of which one thing under way is taken out, or set anew. No code walked. -/
namespace Go.Proofs.Ytppndkbicekkjaa
open Go Go.RowKit Go.Proofs.Gs Go.Proofs.Rt Go.Proofs.Sw
open Go.Proofs.Cc (Turn Grow)

theorem flat_take {k : Nat} : ∀ {css : List (List Value)} (i : Nat), (∀ c ∈ css, c.length = k) → i ≤ css.length → css.flatten.take (i * k) = (css.take i).flatten
  | [], i, _, hi => by obtain rfl : i = 0 := by simpa using hi
                       simp
  | c :: css, 0, _, _ => by simp
  | c :: css, i + 1, h, hi => by
    have hc := h c List.mem_cons_self
    have e : (i + 1) * k = c.length + i * k := by rw [hc, Nat.add_mul, Nat.one_mul, Nat.add_comm]
    rw [List.flatten_cons, e, List.take_length_add_append, flat_take i (fun x hx => h x (List.mem_cons_of_mem _ hx)) (by simpa using hi), List.take_succ_cons, List.flatten_cons]
theorem flat_drop {k : Nat} : ∀ {css : List (List Value)} (i : Nat), (∀ c ∈ css, c.length = k) → i ≤ css.length → css.flatten.drop (i * k) = (css.drop i).flatten
  | [], i, _, hi => by obtain rfl : i = 0 := by simpa using hi
                       simp
  | c :: css, 0, _, _ => by simp
  | c :: css, i + 1, h, hi => by
    have hc := h c List.mem_cons_self
    have e : (i + 1) * k = c.length + i * k := by rw [hc, Nat.add_mul, Nat.one_mul, Nat.add_comm]
    rw [List.flatten_cons, e, List.drop_length_add_append, flat_drop i (fun x hx => h x (List.mem_cons_of_mem _ hx)) (by simpa using hi), List.drop_succ_cons]
theorem own_low {w : World} {Z k n : Nat} {E : TypeId} {v : Value} {xs : List Value} (h : OwnAt w Z E k v n xs) : OwnAt w 0 E k v n xs := by
  refine ⟨h.1, ?_⟩
  rcases h.2 with h2 | ⟨g, off, cap, cur, e, h1, h3⟩
  · exact .inl h2
  · exact .inr ⟨g, off, cap, cur, e, Nat.zero_le _, h3⟩

theorem ownsRow_bd {w : World} {Z : Nat} {E : TypeId} {k n : Nat} {v : Value} {xs : List Value} (h : w.ownsRow Z E k v n xs) {b : Nat} (hb : v.ownBlock = some b) : Z ≤ b ∧ b < w.heap.size := by
  rcases h.2 with ⟨e, _⟩ | ⟨g, cap, cur, e, h1, h3, _⟩
  · rw [e] at hb; simp [Value.ownBlock] at hb
  · rw [e] at hb
    simp [Value.ownBlock] at hb
    subst hb
    exact ⟨h1, (Array.getElem?_eq_some_iff.1 h3).1⟩
theorem PksGro.lower {Z Z' : Nat} {M F : Nat → Prop} {w : World} {v : Value} {ps : List Pk} (h : PksGro Z M F w v ps) (hz : Z' ≤ Z) : PksGro Z' M F w v ps := by
  refine ⟨?_, h.out⟩
  have g := h.gro.mono eltPk (F' := fun b => Z' ≤ b ∧ b < w.heap.size ∧ ¬ M b ∧ some b ≠ v.ownBlock) (fun b hb => ⟨Nat.le_trans hz hb.1, hb.2⟩) (fun b hb => ⟨hb.2.1, hb.2.2.2⟩)
  exact gro_lower g hz
where
  gro_lower {Z Z' : Nat} {E : TypeId} {k : Nat} {α : Type} {El : (Nat → Prop) → World → List Value → α → Prop} {F : Nat → Prop} {w : World} {v : Value} {xs : List α} (h : Gro Z E k El F w v xs) (hz : Z' ≤ Z) : Gro Z' E k El F w v xs := by
    obtain ⟨⟨css, h1, h2, h3⟩, h4⟩ := h
    refine ⟨⟨css, h1, h2, ?_⟩, h4⟩
    rcases h3 with h3 | ⟨g, cap, cur, e, q, r⟩
    · exact .inl h3
    · exact .inr ⟨g, cap, cur, e, Nat.le_trans hz q, r⟩
/-- One taken out, in a new row. -/
theorem WinAt.cutF {M F : Nat → Prop} {w w6 V : World} {wb rb i B : Nat} {W : Win} {fv wv v' : Value} {css : List (List Value)} (h : WinAt M F w wb W fv wv rb) (hels : Els ElFl F w css W.fl) (hi : i < W.fl.length)
    (hb : Below w.heap.size w w6) (hown : w6.ownsRow B 86 6 v' (W.fl.length - 1) (css.flatten.take (i * 6) ++ css.flatten.drop ((i + 1) * 6))) (hnew : ∀ b, v'.ownBlock = some b → w.heap.size ≤ b) (hV : w6.setCell ⟨wb, 3, none⟩ v' = V) :
    WinPost M F (orBlk M v') F w V wb rb { W with fl := W.fl.eraseIdx i } := by
  have hall := hels.all eltFl
  have hcl : css.length = W.fl.length := hels.len
  have hbd := fun b => ownsRow_bnd hown (b := b)
  have e1 : W.fl.eraseIdx i = W.fl.take i ++ W.fl.drop (i + 1) := List.eraseIdx_eq_take_drop_succ ..
  have p1 := (hels.part 0 i)
  rw [List.drop_zero, List.drop_zero] at p1
  have p2 := hels.part (i + 1) (css.length - (i + 1))
  rw [List.take_of_length_le (by rw [List.length_drop]; omega), List.take_of_length_le (by rw [List.length_drop]; omega)] at p2
  have hel2 : Els ElFl F w (css.take i ++ css.drop (i + 1)) (W.fl.eraseIdx i) := by rw [e1]; exact p1.app p2
  have hlen : (W.fl.eraseIdx i).length = W.fl.length - 1 := by rw [List.length_eraseIdx, if_pos hi]
  have hown2 : OwnAt w6 0 86 6 v' (W.fl.eraseIdx i).length (css.take i ++ css.drop (i + 1)).flatten := by
    rw [hlen, List.flatten_append, ← flat_take i hall (by omega), ← flat_drop (i + 1) hall (by omega)]
    exact own_low (OwnAt.of_owns hown)
  obtain ⟨r1, r2, r3, r4⟩ := WinAt.setF (F' := F) h (fun k hk _ _ => hb.block k hk) hb.size (hel2.keep eltFl (fun b hlt _ => hb.block b hlt)) hown2 (fun b e => .inr ⟨hnew b e, fun hx => by have := (h.hF b hx).1; have := hnew b e; omega⟩) (fun _ h => h) (fun b hx => ⟨by have := (h.hF b hx).1; have := hb.size; omega, (h.hF b hx).2⟩) hV
  have hsz := hb.size
  refine ⟨⟨_, _, r1⟩, fun x hx => .inl hx, fun x hx => ?_, fun _ h => h, fun _ h => .inl h, (Turn.of_below (S := M) hb).trans' r4 (fun x hx => .inl hx)⟩
  rcases hx with hx | hx
  · exact .inl hx
  · exact .inr ⟨hnew x hx, by have := hbd x hx; omega⟩
where
  ownsRow_bnd {w : World} {Z : Nat} {E : TypeId} {k n : Nat} {v : Value} {xs : List Value} (h : w.ownsRow Z E k v n xs) {b : Nat} (hb : v.ownBlock = some b) : b < w.heap.size := by
    rcases h.2 with ⟨e, _⟩ | ⟨g, cap, cur, e, h1, h3, _⟩
    · rw [e] at hb; simp [Value.ownBlock] at hb
    · rw [e] at hb
      simp [Value.ownBlock] at hb
      subst hb
      exact (Array.getElem?_eq_some_iff.1 h3).1

theorem take_splice {cur xs vs : List Value} {off N a : Nat} (h : (cur.drop off).take N = xs) (hl : off + N ≤ cur.length) (ha : a + vs.length ≤ N) : ((splice cur (off + a) vs).drop off).take N = splice xs a vs := by
  subst h
  unfold splice
  have l1 : (cur.take (off + a)).length = off + a := by rw [List.length_take]; omega
  rw [List.drop_append_of_le_length (by omega), List.drop_take, Nat.add_sub_cancel_left, List.take_append, List.take_append, List.length_take, List.length_drop, List.take_take]
  have e1 : min a (cur.length - off) = a := by omega
  rw [e1, List.take_of_length_le (show vs.length ≤ N - a by omega)]
  congr 1
  · rw [List.take_take]
    congr 1
    omega
  · congr 1
    rw [List.drop_take, List.drop_drop]
    congr 1
    · omega
    · congr 1
      omega
theorem flat_set {k : Nat} : ∀ {css : List (List Value)} {i : Nat} {cs : List Value}, (∀ c ∈ css, c.length = k) → i < css.length → cs.length = k → splice css.flatten (i * k) cs = (css.set i cs).flatten
  | [], i, cs, _, hi, _ => by simp at hi
  | c :: css, 0, cs, h, _, hk => by
    have hc := h c List.mem_cons_self
    unfold splice
    rw [Nat.zero_mul, List.take_zero, List.nil_append, Nat.zero_add, List.flatten_cons, hk, ← hc, List.drop_left, List.set_cons_zero, List.flatten_cons]
  | c :: css, i + 1, cs, h, hi, hk => by
    have hc := h c List.mem_cons_self
    have e : (i + 1) * k = c.length + i * k := by rw [hc, Nat.add_mul, Nat.one_mul, Nat.add_comm]
    have ih := flat_set (css := css) (i := i) (fun x hx => h x (List.mem_cons_of_mem _ hx)) (by simpa using hi) hk
    unfold splice at ih ⊢
    rw [List.flatten_cons, e, List.take_length_add_append, Nat.add_assoc, List.drop_length_add_append, List.set_cons_succ, List.flatten_cons, ← ih]
    simp only [List.append_assoc]

/-- One set anew, in its place. -/
theorem WinAt.putF {M F : Nat → Prop} {w V : World} {wb rb i gb go n c : Nat} {W : Win} {wv : Value} {f : Fl} {cs : List Value} (h : WinAt M F w wb W (.slice (some ⟨gb, go, none⟩) n c) wv rb) (hi : i < W.fl.length) (hcs : ElFl F w cs f) (hV : w.setCells gb (go + i * 6) cs = V) :
    WinAt M F V wb { W with fl := W.fl.set i f } (.slice (some ⟨gb, go, none⟩) n c) wv rb ∧ Turn M w V ∧ V.heap.size = w.heap.size := by
  obtain ⟨css, e1, o1⟩ := h.fls
  obtain ⟨c2, e2, o2⟩ := h.wts
  have hall := e1.all eltFl
  have hcl : css.length = W.fl.length := e1.len
  have hl6 := eltFl.len hcs
  obtain ⟨hxl, ho⟩ := o1
  rcases ho with ⟨e, _⟩ | ⟨g, off, cap, cur, e, _, hg, hnc, hcm, hfit, hx⟩
  · cases e
  · injection e with q1 q2 q3
    injection q1 with q1
    injection q1 with q1 q4
    subst q1; subst q4; subst q2; subst q3
    have hcap : W.fl.length * 6 ≤ c * 6 := Nat.mul_le_mul_right _ hnc
    have hgw := h.mf gb rfl
    have hV2 := gs_setCells Try.prog (w := w) (g := gb) (o := go + i * 6) (cur := cur) (t := 86) (vs := cs) hg (by rw [hl6]; omega) (eltFl.one hcs)
    rw [hV] at hV2
    have hgV : V.heap[gb]? = some (.cells (splice cur.toList (go + i * 6) cs).toArray 86 (0, 0)) := by rw [hV2]; exact setRow_heap w gb cur _ _ _ hg
    have hoth : ∀ k, k ≠ gb → V.heap[k]? = w.heap[k]? := fun k hk => by rw [hV2]; exact setRow_other w gb k _ hk
    have hsz : V.heap.size = w.heap.size := by rw [hV2]; simp [World.setRow]
    have hlc : (splice cur.toList (go + i * 6) cs).length = cur.size := by rw [length_splice _ _ _ (by rw [hl6]; simp; omega)]; simp
    have hFg : ∀ b, F b → b ≠ gb := fun b hb e => (h.hF b hb).2 (e ▸ hgw.1)
    refine ⟨⟨(hoth wb (Ne.symm hgw.2.1)).trans h.row, ⟨css.set i cs, ⟨by rw [List.length_set, List.length_set]; exact hcl, fun j x y hx1 hy1 => ?_⟩, ⟨?_, .inr ⟨gb, go, c, _, by rw [List.length_set], Nat.zero_le _, hgV, by rw [List.length_set]; exact hnc, hcm, ?_, ?_⟩⟩⟩, ⟨c2, e2.keep eltMg (fun b _ hb => hoth b (hFg b hb)), o2.keep (fun b e => hoth b (fun e3 => (h.mq b e).2.2.2 (by rw [e3]; rfl)))⟩, (hoth rb (Ne.symm hgw.2.2)).trans h.res, h.mw, h.mf, h.mq, h.mr, fun x hx => by have := h.lim x hx; omega, fun b hb => ⟨by have := (h.hF b hb).1; omega, (h.hF b hb).2⟩⟩, ⟨by rw [hV2]; rfl, by rw [hV2]; rfl, by rw [hV2]; rfl, by omega, fun k _ hk => hoth k (fun e => hk (e ▸ hgw.1))⟩, hsz⟩
    · rw [List.getElem?_set] at hx1 hy1
      split at hx1
      · rename_i hij
        rw [if_pos hij] at hy1
        split at hx1
        · injection hx1 with hx1
          rw [if_pos (by omega)] at hy1
          injection hy1 with hy1
          subst hx1; subst hy1
          exact eltFl.keep hcs (fun b _ hb => hoth b (hFg b hb))
        · cases hx1
      · rename_i hij
        rw [if_neg hij] at hy1
        exact eltFl.keep (e1.el j x y hx1 hy1) (fun b _ hb => hoth b (hFg b hb))
    · rw [← flat_set hall (by omega) hl6, length_splice _ _ _ (by rw [hl6, hxl]; omega), List.length_set, hxl]
    · rw [List.size_toArray, hlc]; exact hfit
    · rw [List.length_set, ← flat_set hall (by omega) hl6]
      exact take_splice hx (by simp; omega) (by rw [hl6]; omega)
end Go.Proofs.Ytppndkbicekkjaa

/- Proved here: the contract of session's Deliver. -/
namespace Go.Proofs.Ytppndkbicekkjaa
open Go Go.RowKit Go.Proofs.Gs Go.Proofs.Rt Go.Proofs.Sw Go.Proofs.Rg
open Go.Proofs.Cc (Turn Grow)

/-- One packet that was made, alone. -/
theorem pks_alone {M F : Nat → Prop} {w : World} {Z n : Nat} {pv : Value} {p : Pk} (hZ : Z ≤ w.heap.size) (hM : ∀ b, M b → b < w.heap.size) (hF : ∀ b, F b → b < w.heap.size) (hpn : p.msg.pay.length = n) (hp : RowF (fun x => Z ≤ x ∧ x < w.heap.size ∧ ¬ M x) w 1 pv n (payCells p.msg.pay)) :
    PksGro Z M F (w.alloc (.cells (pkCells p pv).toArray 45)) (.slice (some ⟨w.heap.size, 0, none⟩) 1 1) [p] := by
  subst hpn
  have hb1 : Below w.heap.size w (w.alloc (.cells (pkCells p pv).toArray 45)) := (Below.refl _ _).alloc (Nat.le_refl _) _
  have hs1 : (w.alloc (.cells (pkCells p pv).toArray 45)).heap.size = w.heap.size + 1 := by simp
  refine ⟨⟨⟨[pkCells p pv], Els.one ⟨pv, rfl, (hp.keep (Same.below hb1)).mono (fun x hx => ⟨hx.1, by have := hx.2.1; omega, hx.2.2, fun e => ?_⟩)⟩, ?_, .inr ⟨w.heap.size, 1, (pkCells p pv).toArray, rfl, hZ, (MapKept.heap_alloc w _).1, Nat.le_refl _, by unfold maxLen; omega, by simp [pkCells], by simp [pkCells]⟩⟩, fun b hb => ⟨hb.2.1, hb.2.2.2⟩⟩, fun b e => ?_⟩
  · simp only [Value.ownBlock, Option.some.injEq] at e
    have := hx.2.1
    omega
  · simp [pkCells]
  · simp only [Value.ownBlock, Option.some.injEq] at e
    subst e
    exact ⟨fun hm => by have := hM _ hm; omega, fun hm => by have := hF _ hm; omega⟩

set_option maxHeartbeats 2000000 in
set_option maxRecDepth 100000 in
theorem deliver_any {M F G : Nat → Prop} {w : World} {sb : Nat} {S : Ses} {v : Value} {m : MsgV} (h : SesAt M F w sb S) (hs : Small S.win) (hv : MsgVal G w v m) (hG : ∀ b, G b → b < w.heap.size ∧ ¬ M b) (hn : m.pay.length ≤ 1000000000) (hq : m.qos = 0 ∨ sendable m = true) :
    Calls Try.prog 11 #[.pointer (some ⟨sb, 0, none⟩), v] w fun e w' => ∃ v' M' F', e = .returned (.tuple #[v', .bool (delivW S m).2.2]) ∧ PksGro w.heap.size M' F' w' v' (delivW S m).2.1 ∧ SesPost M F M' F' w w' sb (delivW S m).1 := by
  obtain ⟨Mw, wb, rb, nb, fv, wv, sv, h⟩ := h
  obtain ⟨pv, rfl, hp⟩ := hv
  obtain ⟨pa, pc, rfl⟩ := pay_slice hp
  obtain ⟨pn, hpn⟩ : ∃ pn, m.pay.length = pn := ⟨_, rfl⟩
  obtain ⟨W0, hW0⟩ : ∃ W0, w.alloc (.cells #[.string m.topic, .slice pa pn pc, .int .i64 m.qos, .bool m.ret] 41) = W0 := ⟨_, rfl⟩
  have g0 : W0.heap[w.heap.size]? = some (.cells #[.string m.topic, .slice pa pn pc, .int .i64 m.qos, .bool m.ret] 41 (0, 0)) := by rw [← hW0]; exact (MapKept.heap_alloc w _).1
  have hb0 : Below w.heap.size w W0 := by rw [← hW0]; exact (Below.refl _ _).alloc (Nat.le_refl _) _
  have hs0 : W0.heap.size = w.heap.size + 1 := by rw [← hW0]; simp
  have y0 := cell4' g0 0 _ rfl
  have y1 := cell4' g0 1 _ rfl
  have y2 := cell4' g0 2 _ rfl
  have y3 := cell4' g0 3 _ rfl
  have h0 := h.below hb0
  have c0 : W0.cell? ⟨sb, 0, none⟩ = some (.pointer (some ⟨wb, 0, none⟩)) := h0.cell 0 _ rfl
  obtain ⟨T, hT⟩ : ∃ T, delivW S m = T := ⟨_, rfl⟩
  rw [hpn, hT]
  unfold delivW at hT
  have HB0 := Lib.hid hb0
  have HW0 := Lib.hid hW0
  have HS0 := Lib.hid hs0
  have HH := Lib.hid h
  have HH0 := Lib.hid h0
  have HLIM := Lib.hid h.lim
  have hp0 := hp.keep (Same.below hb0)
  rw [hpn] at hp0
  have HP0 := Lib.hid hp0
  have HPN := Lib.hid hpn
  have HG := Lib.hid hG
  by_cases hq0 : m.qos = 0
  · have hd : (m.qos != 0) = false := by rw [hq0]; rfl
    rw [if_pos hq0] at hT
    cases hon : S.win.on with
    | false =>
      rw [if_neg (by rw [hon]; simp)] at hT
      have HT := Lib.hid hT
      have HON := Lib.hid (online_any h0.win)
      rw [hon] at HON
      clear h hp hpn hW0 g0 hb0 hs0 h0 hT hp0 hG hn hs hq hq0 hon
      go_enter Try.func11, Try.ntmps11
      go_upto_region 1 with fail
      rw [HW0.out]
      go_wp2_with fail
      refine HON.out.mono ?_
      rintro e w1 ⟨rfl, rfl⟩
      go_wp2_with fail
      go_ret2
      rw [← HT.out]
      refine ⟨_, M, F, rfl, PksGro.nil _ _ _ _, (SesPost.refl ⟨Mw, wb, rb, nb, fv, wv, sv, HH.out⟩).more HB0.out⟩
    | true =>
      rw [if_pos hon] at hT
      have HT := Lib.hid hT
      have HON := Lib.hid (online_any h0.win)
      rw [hon] at HON
      have HCL := Lib.hid (cloneB_any hp0.1 (by omega) (pay_one _))
      clear h hp hpn hW0 hb0 hs0 h0 hT hp0 hG hn hs hq hq0 hon
      go_enter Try.func11, Try.ntmps11
      go_upto_region 1 with fail
      rw [HW0.out]
      go_wp2_with fail
      refine HON.out.mono ?_
      rintro e w1 ⟨rfl, rfl⟩
      go_wp2_with fail
      refine HCL.out.mono ?_
      rintro e w2 ⟨v2, rfl, hown2, hb2⟩
      have g2 := (hb2.block _ (Array.getElem?_eq_some_iff.1 g0).1).trans g0
      have hz2 := hb2.size
      obtain ⟨_, a2, c2, hv2, _⟩ := RowAt.of_owns hown2
      subst hv2
      have f2 := fun j => frozen_of_row w2 w.heap.size j _ _ g2
      have x0 := cell4' g2 0 _ rfl
      have x1 := cell4' g2 1 _ rfl
      have x2 := cell4' g2 2 _ rfl
      have x3 := cell4' g2 3 _ rfl
      have HO2 := Lib.hid hown2
      have HB2 := Lib.hid hb2
      have HZ2 := Lib.hid hz2
      have HG2 := Lib.hid g2
      clear hown2 hb2 g2 hz2 g0 y0 y1 y2 y3 c0
      go_upto_region 7 with fail
      obtain ⟨V, hV⟩ : ∃ V, w2.setCell ⟨w.heap.size, 1, none⟩ (.slice a2 pn c2) = V := ⟨_, rfl⟩
      rw [hV]
      have gV : V.heap[w.heap.size]? = some (.cells #[.string m.topic, .slice a2 pn c2, .int .i64 m.qos, .bool m.ret] 41 (0, 0)) := by rw [← hV]; exact heap_setCell_same _ _ _ _ _ _ HG2.out
      have hsV : V.heap.size = w2.heap.size := by rw [← hV]; exact size_set _ _ _
      have hbV : Below w.heap.size w V := by rw [← hV]; exact (HB0.out.trans (HB2.out.mono HB0.out.size)).setCell (p := ⟨w.heap.size, 1, none⟩) (Nat.le_refl _) _
      have hpV : RowF (fun x => w.heap.size ≤ x ∧ x < V.heap.size ∧ ¬ M x) V 1 (.slice a2 pn c2) pn (payCells m.pay) := by
        have h1 := OwnAt.of_owns HO2.out
        refine ⟨?_, fun b e => ?_⟩
        · refine (h1.keep (w' := V) (fun b e => ?_)).row
          rw [← hV]
          exact heap_setCell_other _ _ _ _ (fun e2 => by have := (h1.bound e).1; have e3 : b = w.heap.size := e2; have := HS0.out; omega)
        · have := h1.bound e
          have h0 := HS0.out
          exact ⟨by omega, by omega, fun hm => by have := HLIM.out b hm; omega⟩
      have n0 := cell4' gV 0 _ rfl
      have n1 := cell4' gV 1 _ rfl
      have n2 := cell4' gV 2 _ rfl
      have n3 := cell4' gV 3 _ rfl
      have hz : w.heap.size ≤ V.heap.size := hbV.size
      have hpk := pks_alone (M := M) (F := F) (w := V) (p := ⟨3, 0, false, m⟩) hz (fun b hb => by have := HLIM.out b hb; omega) (fun b hb => by have := (HH.out.hF b hb).1; omega) HPN.out hpV
      have HPK := Lib.hid hpk
      have hbb : Below w.heap.size w (V.alloc (.cells (pkCells ⟨3, 0, false, m⟩ (.slice a2 pn c2)).toArray 45)) := hbV.alloc hz _
      have HBB := Lib.hid hbb
      clear hV gV hsV hbV hpV hz hpk hbb x0 x1 x2 x3 f2
      go_wp2_with (refine wpList_pk rfl _ rfl _ rfl (by rfl) ?_)
      go_ret2
      rw [← HT.out]
      refine ⟨_, M, F, rfl, HPK.out, (SesPost.refl ⟨Mw, wb, rb, nb, fv, wv, sv, HH.out⟩).more HBB.out⟩
  · have hd : (m.qos != 0) = true := by rw [bne_iff_ne]; exact hq0
    have hsend : sendable m = true := hq.resolve_left hq0
    rw [if_neg hq0, if_pos hsend] at hT
    have HT := Lib.hid hT
    have HSEND := Lib.hid (fun (X : World) (hb : Below W0.heap.size W0 X) => send_any (G := G) (v := .agg #[.string m.topic, .slice pa pn pc, .int .i64 m.qos, .bool m.ret]) (h0.below hb).win hs ⟨_, rfl, by have h1 := hp0.keep (Same.below hb); rw [← hpn] at h1; rw [← hpn]; exact h1⟩ (fun b hx => ⟨by have := (hG b hx).1; have := hb.size; omega, fun hm => (hG b hx).2 (h.mw b hm).1⟩) hn hsend)
    clear h hp hpn hW0 g0 hb0 hs0 h0 hT hp0 hG hn hs hq hq0 hsend
    go_enter Try.func11, Try.ntmps11
    go_upto_region 1 with fail
    rw [HW0.out]
    go_upto_region 2 with fail
    have z0 := regr_cell y0
    have z1 := regr_cell y1
    have z2 := regr_cell y2
    have z3 := regr_cell y3
    have zc := regr_cell c0
    have x0 := cell_below' ((Below.refl _ W0).drew) y0
    have x1 := cell_below' ((Below.refl _ W0).drew) y1
    have x2 := cell_below' ((Below.refl _ W0).drew) y2
    have x3 := cell_below' ((Below.refl _ W0).drew) y3
    have xc := cell_below' ((Below.refl _ W0).drew) c0
    have HC := Lib.hid (HSEND.out W0.drew ((Below.refl _ W0).drew))
    clear z0 z1 z2 z3 zc
    go_region_law (go_simp; go_at_call 35; refine HC.out.mono ?_; rintro e w5 ⟨v5, M5, F5, rfl, hp5, hw5⟩; have HP5 := Lib.hid hp5; have HW5 := Lib.hid hw5; clear hp5 hw5)
    all_goals
      have hbd : Below w.heap.size w W0.drew := HB0.out.drew
      have hpost := ((SesPost.refl (F := F) ⟨Mw, wb, rb, nb, fv, wv, sv, HH.out⟩).more hbd).trans ((HH.out.below hbd).winPost HW5.out)
      have hz := HB0.out.size
      have hpk := (PksGro.session HP5.out (M := M) (fun x hx => by have := HLIM.out x hx; show x < W0.heap.size; omega)).lower (Z' := w.heap.size) hz
      have HPOST := Lib.hid hpost
      have HPK := Lib.hid hpk
      clear hbd hpost hz hpk x0 x1 x2 x3 xc y0 y1 y2 y3 c0
      go_wp2_with fail
      go_ret2
      rw [← HT.out]
      exact ⟨_, _, F5, rfl, HPK.out, HPOST.out⟩
end Go.Proofs.Ytppndkbicekkjaa

/- Proved here: the contract of window's Up. -/
namespace Go.Proofs.Ytppndkbicekkjaa
open Go Go.RowKit Go.Proofs.Gs Go.Proofs.Rt Go.Proofs.Sw Go.Proofs.Rg
open Go.Proofs.Cc (Turn Grow)

/-- append of one packet that was made: what of the world has turned. -/
theorem pks_more {M F : Nat → Prop} {w : World} {Z n : Nat} {v pv : Value} {ps : List Pk} {p : Pk} (h : PksGro Z M F w v ps) (hM : ∀ b, M b → b < w.heap.size) (hF : ∀ b, F b → b < w.heap.size) (hpn : p.msg.pay.length = n) (hp : RowF (fun x => Z ≤ x ∧ x < w.heap.size ∧ ¬ M x ∧ some x ≠ v.ownBlock) w 1 pv n (payCells p.msg.pay)) (hZ : Z ≤ w.heap.size) (hn : ps.length ≤ 300000000) :
    ∃ a c w', (∀ ty, (Builtin.append_ #[30, 30] ty #[v, .slice (some ⟨w.heap.size, 0, none⟩) 1 1]).run Try.prog (w.alloc (.cells (pkCells p pv).toArray 45)) = .ok (.slice a (ps.length + 1) c) w') ∧ PksGro Z M F w' (.slice a (ps.length + 1) c) (ps ++ [p]) ∧ Turn (fun b => v.ownBlock = some b) w w' := by
  subst hpn
  have hb1 : Below w.heap.size w (w.alloc (.cells (pkCells p pv).toArray 45)) := (Below.refl _ _).alloc (Nat.le_refl _) _
  have hs1 : (w.alloc (.cells (pkCells p pv).toArray 45)).heap.size = w.heap.size + 1 := by simp
  have h1 := h.below hb1
  have hr := reads_one eltPk (a := p) (cs := pkCells p pv) ⟨pv, rfl, hp⟩ (fun b hb => hb.2.1) 45
  obtain ⟨a, c, w', r1, r2, r3⟩ := h1.app hr (fun b hb => ⟨hb.1, by have := hb.2.1; omega, hb.2.2⟩) (fun b hb => by have := hM b hb; omega) (fun b hb => by have := hF b hb; omega) (by omega) (by simp; omega)
  exact ⟨a, c, w', r1, r2, (Turn.of_below (S := fun b => v.ownBlock = some b) hb1).grown r3 (fun k e => .inl e)⟩

set_option maxHeartbeats 2000000 in
set_option maxRecDepth 100000 in
theorem up_any {M F : Nat → Prop} {w : World} {wb rb : Nat} {W : Win} {fv wv : Value} (h : WinAt M F w wb W fv wv rb) (hs : Small W) :
    Calls Try.prog 10 #[.pointer (some ⟨wb, 0, none⟩)] w fun e w' => ∃ v M' F', e = .returned v ∧ PksGro w.heap.size M' F' w' v (upW W).2 ∧ WinPost M F M' F' w w' wb rb (upW W).1 ∧ Small (upW W).1 := by
  have c6 := h.cell 6 _ rfl
  have f6 := frozen_of_row w wb 6 _ _ h.row
  obtain ⟨w1, hw1⟩ : ∃ w1, w.setCell ⟨wb, 6, none⟩ (.bool true) = w1 := ⟨_, rfl⟩
  obtain ⟨h1, ht1⟩ := h.turned true hw1
  obtain ⟨W1, hW1⟩ : ∃ W1 : Win, { W with on := true } = W1 := ⟨_, rfl⟩
  rw [hW1] at h1
  have hs1 : Small W1 := by rw [← hW1]; exact ⟨hs.win, hs.que, hs.last, hs.fl, hs.wt, hs.fs, hs.ws⟩
  have hup : upW W = ((fillW W1).1, W1.fl.map (pub true) ++ (fillW W1).2) := by rw [← hW1]; rfl
  have hz1 : w1.heap.size = w.heap.size := by rw [← hw1]; exact size_set _ _ _
  rw [hup]
  obtain ⟨T, hTT⟩ : ∃ T, fillW W1 = T := ⟨_, rfl⟩
  rw [hTT]
  have HTT := Lib.hid hTT
  clear hTT
  obtain ⟨fa, fc, rfl⟩ := h1.fslice
  have c3 : w1.cell? ⟨wb, 3, none⟩ = some (.slice fa W1.fl.length fc) := h1.cell 3 _ rfl
  obtain ⟨K, hK⟩ : ∃ K, W1.fl.length = K := ⟨_, rfl⟩
  have hKm : K ≤ 65535 := by have := hs1.fl; have := hs1.win; omega
  have HH := Lib.hid h1
  have HT := Lib.hid ht1
  have HS := Lib.hid hs1
  have HK := Lib.hid hK
  have HZ := Lib.hid hz1
  have HLIM := Lib.hid h1.lim
  rw [hK] at c3
  have hfb : ∀ {P : Prop}, P → P := fun h => h
  clear h h1 ht1 hs hs1 hW1 hup hz1 hK hfb
  go_enter Try.func10, Try.ntmps10
  go_wp2_with fail
  (try rw [hw1])
  clear hw1 c6 f6
  go_loopg [3, 14] K (fun g s3 s14 wr => ∃ i : Nat, i + g = K ∧ s14 = .int .i64 (i : Nat) ∧ PksGro w.heap.size M F wr s3 ((W1.fl.take i).map (pub true)) ∧ WinAt M F wr wb W1 (.slice fa W1.fl.length fc) wv rb ∧ Turn (fun _ => False) w1 wr)
  case atStart => exact ⟨0, by omega, rfl, PksGro.nil _ _ _ _, HH.out, Turn.refl _ _⟩
  case round =>
    obtain ⟨i, hig, rfl, hp, hat, htr⟩ := hrel
    cases gk with
    | zero =>
      obtain rfl : i = K := by omega
      have hd : decide ((i : Int) < (i : Int)) = false := decide_eq_false (by omega)
      rw [← HK.out, List.take_length] at hp
      have HC := Lib.hid (fill_any hat HS.out)
      rw [HTT.out] at HC
      have HP := Lib.hid hp
      have HTR := Lib.hid htr
      clear hp hat htr hig
      go_wp2_with fail
      refine HC.out.mono ?_
      rintro e w5 ⟨v5, M5, F5, rfl, hp5, hw5, hs5⟩
      have hz5 := hw5.turn.size
      have hzr := HTR.out.size
      have hz := HZ.out
      have hp1 : PksGro w.heap.size M5 F5 w5 u3 (W1.fl.map (pub true)) := HP.out.turn hw5.turn (fun x hx => by rcases hw5.new x hx with hx | hx; exact .inl hx; exact .inr hx.1) (fun x hx => by rcases hw5.newF x hx with hx | hx; exact .inl hx; exact .inr hx.1)
      obtain ⟨fv5, wv5, hat5⟩ := hw5.at'
      have hlen : T.2.length ≤ 65536 := by rw [← HTT.out]; have := fillN_len W1.wt.length W1; have := HS.out.wt; have := HS.out.que; show (fillN _ _).2.length ≤ _; omega
      obtain ⟨a6, c6, w6, hrun, hp6, hg6⟩ := hp1.app hp5.reads (fun b hb => ⟨by have := hb.1; omega, hb.2.1, hb.2.2.1, fun e => by have := (HP.out.bound e.symm).2; have := hb.1; omega⟩) hat5.lim (fun b hb => (hat5.hF b hb).1) (by omega) (by rw [List.length_map]; have := HK.out; omega)
      have hout := hp1.out
      have hbd := fun b => hp1.bound (b := b)
      obtain ⟨a5, cc5, rfl⟩ := hp5.slice
      obtain ⟨a3, cc3, rfl⟩ := hp1.slice
      have HP6 := Lib.hid hp6
      have HS5 := Lib.hid hs5
      have hwp : WinPost M F M5 F5 w w5 wb rb T.1 := by
        refine ⟨hw5.at', hw5.sub, fun x hx => ?_, hw5.subF, fun x hx => ?_, HT.out.trans' ((HTR.out.mono (fun _ h => h.elim)).trans' hw5.turn (fun x hx => .inl hx)) (fun x hx => .inl hx)⟩
        · rcases hw5.new x hx with hx | hx
          · exact .inl hx
          · exact .inr ⟨by omega, hx.2⟩
        · rcases hw5.newF x hx with hx | hx
          · exact .inl hx
          · exact .inr ⟨by omega, hx.2⟩
      have hwp6 := hwp.grown hg6 (fun b e => ⟨(hbd b e).1, (hout b e).1, (hout b e).2⟩)
      have HW6 := Lib.hid hwp6
      clear hp1 hp5 hw5 hs5 hwp hwp6 hp6 hg6 hat5 hout hbd hz5 hzr hz hlen
      generalize T.2.length = l2 at *
      generalize (List.map (pub true) W1.fl).length = l1 at *
      go_wp2_with (at_builtin; refine Lib.wpList_append_run _ rfl _ _ _ _ rfl _ _ rfl rfl _ _ (hrun _) ?_)
      go_ret
      exact ⟨_, M5, F5, rfl, HP6.out, HW6.out, HS5.out⟩
    | succ gk =>
      have hd : decide ((i : Int) < (K : Int)) = true := decide_eq_true (by omega)
      have hq1 : (0 : Int) ≤ (i : Int) := by omega
      have hq2 : (i : Int) < (K : Int) := by omega
      obtain ⟨f, hf⟩ : ∃ f, W1.fl[i]? = some f := ⟨_, List.getElem?_eq_getElem (by rw [HK.out]; omega)⟩
      have hrow := hat.freads
      obtain ⟨gb, go, rfl⟩ : ∃ gb go, fa = some ⟨gb, go, none⟩ := by
        obtain ⟨css, _, hr⟩ := hrow
        rcases RowAt.cases hr with ⟨h0, _⟩ | ⟨_, b, o, c, e, _⟩
        · have := HK.out; omega
        · injection e with e1 e2 e3
          exact ⟨b, o, e1⟩
      obtain ⟨cs, ⟨pv, rfl, hpf⟩, hc⟩ := hrow.one eltFl hf
      obtain ⟨pa, pc, rfl⟩ := pay_slice hpf
      obtain ⟨pn, hpn⟩ : ∃ pn, f.msg.pay.length = pn := ⟨_, rfl⟩
      rw [hpn] at hc
      have k0 : wr.cell? ⟨gb, go + (i * 6 + 0), none⟩ = some (.int .i64 (f.id : Nat)) := hc 0 _ rfl
      have k1 : wr.cell? ⟨gb, go + (i * 6 + 1), none⟩ = some (.string f.msg.topic) := hc 1 _ rfl
      have k2 : wr.cell? ⟨gb, go + (i * 6 + 2), none⟩ = some (.slice pa pn pc) := hc 2 _ rfl
      have k3 : wr.cell? ⟨gb, go + (i * 6 + 3), none⟩ = some (.int .i64 f.msg.qos) := hc 3 _ rfl
      have k4 : wr.cell? ⟨gb, go + (i * 6 + 4), none⟩ = some (.bool f.msg.ret) := hc 4 _ rfl
      have k5 : wr.cell? ⟨gb, go + (i * 6 + 5), none⟩ = some (.bool f.rel) := hc 5 _ rfl
      rw [Nat.add_zero] at k0
      rw [← Nat.add_assoc] at k1 k2 k3 k4 k5
      obtain ⟨V0, hV0⟩ : ∃ V0, wr.alloc (.cells #[.int .i64 (f.id : Nat), .string f.msg.topic, .slice pa pn pc, .int .i64 f.msg.qos, .bool f.msg.ret, .bool f.rel] 86) = V0 := ⟨_, rfl⟩
      have hbV : Below wr.heap.size wr V0 := by rw [← hV0]; exact (Below.refl _ _).alloc (Nat.le_refl _) _
      have hsV : V0.heap.size = wr.heap.size + 1 := by rw [← hV0]; simp
      have gV : V0.heap[wr.heap.size]? = some (.cells #[.int .i64 (f.id : Nat), .string f.msg.topic, .slice pa pn pc, .int .i64 f.msg.qos, .bool f.msg.ret, .bool f.rel] 86 (0, 0)) := by rw [← hV0]; exact (MapKept.heap_alloc wr _).1
      have hpV := hpf.keep (Same.below hbV)
      have hfm : f.msg.pay.length ≤ 1000000000 := HS.out.fs f (List.mem_of_getElem? hf)
      have HCALL := Lib.hid (packet_any (f := f) hpV true hfm)
      have hpn' := hpn
      simp only [hpn'] at HCALL
      have n0 : V0.cell? ⟨wr.heap.size, 0, none⟩ = some (.int .i64 (f.id : Nat)) := cell4' gV 0 _ rfl
      have n1 : V0.cell? ⟨wr.heap.size, 1, none⟩ = some (.string f.msg.topic) := cell4' gV 1 _ rfl
      have n2 : V0.cell? ⟨wr.heap.size, 2, none⟩ = some (.slice pa pn pc) := cell4' gV 2 _ rfl
      have n3 : V0.cell? ⟨wr.heap.size, 3, none⟩ = some (.int .i64 f.msg.qos) := cell4' gV 3 _ rfl
      have n4 : V0.cell? ⟨wr.heap.size, 4, none⟩ = some (.bool f.msg.ret) := cell4' gV 4 _ rfl
      have n5 : V0.cell? ⟨wr.heap.size, 5, none⟩ = some (.bool f.rel) := cell4' gV 5 _ rfl
      have HV0 := Lib.hid hV0
      have HBV := Lib.hid hbV
      have HSV := Lib.hid hsV
      have HP := Lib.hid hp
      have HAT := Lib.hid hat
      have HTR := Lib.hid htr
      have HF := Lib.hid hf
      have HIG := Lib.hid hig
      clear hV0 hbV hsV gV hpV hfm hpn hpn' hp hat htr hf hrow hc hpf hig
      go_upto_region 6 with fail
      clear k0 k1 k2 k3 k4 k5
      rw [HV0.out]
      clear HV0
      go_wp2_with fail
      refine HCALL.out.mono ?_
      rintro e w5 ⟨pv5, rfl, hp5, hb5⟩
      have hz5 := hb5.size
      have hsV := HSV.out
      have hzr := HTR.out.size
      have hz := HZ.out
      have hbt : Below wr.heap.size wr w5 := HBV.out.trans (hb5.mono HBV.out.size)
      have hpk5 := HP.out.below hbt
      obtain ⟨pa5, pc5, rfl⟩ := pay_slice hp5
      obtain ⟨sa, sc, w6, hrun, hpk6, ht6⟩ := pks_more (p := pub true f) hpk5 (fun b hb => by have := HAT.out.lim b hb; have := hbt.size; omega) (fun b hb => by have := (HAT.out.hF b hb).1; have := hbt.size; omega) rfl (hp5.mono (fun x hx => ⟨by have := hx.1; omega, hx.2, fun hm => by have := HAT.out.lim x hm; have := hx.1; omega, fun e => by have := (HP.out.bound e.symm).2; have := hx.1; omega⟩)) (by omega) (by rw [List.length_map, List.length_take]; omega)
      have hout := hpk5.out
      obtain ⟨a3, cc3, hs3⟩ := HP.out.slice
      have hbd := fun b => HP.out.bound (b := b)
      have hat6 : WinAt M F w6 wb W1 (.slice (some ⟨gb, go, none⟩) W1.fl.length fc) wv rb := (HAT.out.below hbt).keep (fun b hb hx => ht6.block b hb (fun e => by rcases hx with hx | hx; exact (hout b e).2 hx; exact (hout b e).1 hx)) ht6.size
      have ht7 : Turn (fun _ => False) w1 w6 := HTR.out.trans' ((Turn.of_below (S := fun b => u3.ownBlock = some b) hbt).trans' ht6 (fun x hx => .inl hx)) (fun x hx => .inr (by have := (hbd x hx).1; omega))
      obtain ⟨l0, hl0⟩ : ∃ l0, (List.map (pub true) (List.take i W1.fl)).length = l0 := ⟨_, rfl⟩
      rw [hl0] at hrun hpk6
      clear hl0
      have HPK6 := Lib.hid hpk6
      have HAT6 := Lib.hid hat6
      have HT7 := Lib.hid ht7
      clear hp5 hb5 hz5 hsV hzr hz hbt hpk5 hpk6 ht6 hout hs3 hbd hat6 ht7 n0 n1 n2 n3 n4 n5
      go_wp2_with (first | (refine wpList_pk rfl _ rfl _ rfl (by rfl) ?_) | (at_builtin; refine Lib.wpList_append_run _ rfl _ _ _ _ rfl _ _ rfl rfl _ _ (hrun _) ?_))
      go_roundg gk
      case measure => omega
      case rel => exact ⟨i + 1, by have := HIG.out; omega, by go_num, by rw [List.take_add_one, HF.out, Option.toList_some, List.map_append, List.map_singleton]; exact HPK6.out, HAT6.out, HT7.out⟩
end Go.Proofs.Ytppndkbicekkjaa
