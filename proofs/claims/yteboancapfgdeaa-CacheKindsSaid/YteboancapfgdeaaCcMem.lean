/- Plain: a cache in memory (its struct, its map, its ring of entries), who owns which blocks, what stays. No program in sight. -/
import Derived.Test.YteboancapfgdeaaCcRing
import Derived.Maps.OwnSet
namespace Go.Proofs.Cc
open Go Go.RowKit

/-- Only blocks of S may have turned; new ones may have come. -/
structure Turn (S : Nat → Prop) (w w' : World) : Prop where
  os : w'.os = w.os
  tape : w'.tape = w.tape
  output : w'.output = w.output
  size : w.heap.size ≤ w'.heap.size
  block : ∀ k, k < w.heap.size → ¬ S k → w'.heap[k]? = w.heap[k]?

/-- .. and the new ones. -/
def Grow (S : Nat → Prop) (w : World) : Nat → Prop := fun x => S x ∨ w.heap.size ≤ x

theorem Turn.refl (S : Nat → Prop) (w : World) : Turn S w w := ⟨rfl, rfl, rfl, Nat.le_refl _, fun _ _ _ => rfl⟩

theorem Turn.trans {S : Nat → Prop} {a b c : World} (h : Turn S a b) (k : Turn (Grow S a) b c) : Turn S a c :=
  ⟨k.os.trans h.os, k.tape.trans h.tape, k.output.trans h.output, Nat.le_trans h.size k.size, fun i hi hs =>
    (k.block i (Nat.lt_of_lt_of_le hi h.size) (fun x => x.elim hs (fun x => Nat.lt_irrefl _ (Nat.lt_of_lt_of_le hi x)))).trans (h.block i hi hs)⟩

theorem Turn.mono {S T : Nat → Prop} {a b : World} (h : Turn S a b) (hs : ∀ x, S x → T x) : Turn T a b :=
  ⟨h.os, h.tape, h.output, h.size, fun i hi ht => h.block i hi (fun x => ht (hs i x))⟩

theorem Turn.trans' {S T : Nat → Prop} {a b c : World} (h : Turn S a b) (k : Turn T b c) (hs : ∀ x, T x → Grow S a x) : Turn S a c := h.trans (k.mono hs)

theorem Turn.alloc {S : Nat → Prop} {a w : World} (h : Turn S a w) (o : Obj) : Turn S a (w.alloc o) :=
  h.trans ⟨rfl, rfl, rfl, by simp, fun k hk _ => Below.heap_alloc _ _ _ hk⟩

theorem Turn.setCell {S : Nat → Prop} {a w : World} (h : Turn S a w) {p : Addr} (hp : Grow S a p.block) (u : Value) : Turn S a (w.setCell p u) :=
  h.trans ⟨rfl, rfl, rfl, by simp [World.setCell], fun k _ hk => Below.heap_setCell _ _ _ _ (fun e => hk (e ▸ hp))⟩

theorem Turn.drew {S : Nat → Prop} {a w : World} (h : Turn S a w) : Turn S a w.drew := ⟨h.os, h.tape, h.output, h.size, h.block⟩

theorem Turn.of_drew {S : Nat → Prop} {a w : World} (h : Turn S a.drew w) : Turn S a w := ⟨h.os, h.tape, h.output, h.size, h.block⟩

theorem Turn.grown {S : Nat → Prop} {a w w' : World} {row : Option Nat} (h : Turn S a w) (hg : w.grownBy w' row) (hr : ∀ k, row = some k → Grow S a k) : Turn S a w' :=
  h.trans ⟨hg.os, hg.tape, hg.output, hg.size, fun k hk hs => hg.block k hk (fun e => hs (hr k e.symm))⟩

theorem Turn.below {S : Nat → Prop} {w w' : World} (h : Turn S w w') {n : Nat} (hn : n ≤ w.heap.size) (hs : ∀ x, x < n → ¬ S x) : Below n w w' :=
  ⟨h.os, h.tape, h.output, h.size, fun k hk => h.block k (Nat.lt_of_lt_of_le hk hn) (hs k hk)⟩

theorem Turn.of_below {S : Nat → Prop} {w w' : World} (h : Below w.heap.size w w') : Turn S w w' := ⟨h.os, h.tape, h.output, h.size, fun k hk _ => h.block k hk⟩

/-- What is asked of a world that has turned elsewhere. -/
def Same (S : Nat → Prop) (w w' : World) : Prop := ∀ k, k < w.heap.size → S k → w'.heap[k]? = w.heap[k]?

theorem Turn.same {S T : Nat → Prop} {w w' : World} (h : Turn S w w') (hd : ∀ x, T x → ¬ S x) : Same T w w' := fun k hk ht => h.block k hk (hd k ht)
theorem Below.toSame {S : Nat → Prop} {w w' : World} (h : Below w.heap.size w w') : Same S w w' := fun k hk _ => h.block k hk

theorem Same.cell {S : Nat → Prop} {w w' : World} (h : Same S w w') {b o : Nat} {u : Value} (hb : S b) (hc : w.cell? ⟨b, o, none⟩ = some u) : w'.cell? ⟨b, o, none⟩ = some u := by
  rw [← hc]
  exact World.cell?_of_block (w := w) (a := ⟨b, o, none⟩) (h b (World.block_lt_of_cell? w _ hc) hb)

theorem Live.lt {w : World} {b : Nat} (h : Live w b) : b < w.heap.size := by
  obtain ⟨cs, e, h⟩ := h
  exact (Array.getElem?_eq_some_iff.1 h).1

theorem Same.live {S : Nat → Prop} {w w' : World} (h : Same S w w') {b : Nat} (hb : S b) (hl : Live w b) : Live w' b := by
  have := hl.lt
  obtain ⟨cs, e, hl⟩ := hl
  exact ⟨cs, e, (h b this hb).trans hl⟩

theorem Same.seg {S : Nat → Prop} {w w' : World} (h : Same S w w') : ∀ (r : List Nat) (a z : Nat), S a → S z → (∀ x ∈ r, S x) → Seg w a r z → Seg w' a r z
  | [], a, z, ha, hz, _, hs => ⟨h.cell ha hs.1, h.cell hz hs.2⟩
  | b :: r, a, z, ha, hz, hr, hs => ⟨⟨h.cell ha hs.1.1, h.cell (hr b (by simp)) hs.1.2⟩, Same.seg h r b z (hr b (by simp)) hz (fun x hx => hr x (by simp [hx])) hs.2⟩

def HasCells (w : World) (b o : Nat) (l : List Value) : Prop := ∀ i u, l[i]? = some u → w.cell? ⟨b, o + i, none⟩ = some u

theorem Same.cells {S : Nat → Prop} {w w' : World} (h : Same S w w') {b o : Nat} {l : List Value} (hb : S b) (hc : HasCells w b o l) : HasCells w' b o l := fun i u hi => h.cell hb (hc i u hi)

/-- How a type's values lie: as one value, as cells, as a key. -/
structure Kd (α : Type) where
  val : α → Value
  cells : α → List Value
  lit : α → Lit

structure Ent (K V : Type) where
  blk : Nat
  key : K
  val : V

/-- A pointer to a block, read as the block's number. -/
def ptrR : Value → Option (DataW Unit × List MemPlace)
  | .pointer (some ⟨b, 0, none⟩) => some (.lit (.int .i64 b), [])
  | .pointer none => some (.nil, [])
  | _ => none

theorem ptrR_inv {v : Value} {b : Int} {ps : List MemPlace} (h : ptrR v = some (.lit (.int .i64 b), ps)) : ∃ n : Nat, b = n ∧ v = .pointer (some ⟨n, 0, none⟩) := by
  unfold ptrR at h
  split at h
  · rename_i n
    injection h with h
    injection h with h _
    injection h with h
    injection h with _ h
    exact ⟨n, h.symm, rfl⟩
  · injection h with h
    injection h with h _
    cases h
  · cases h

section
variable {K V : Type} [DecidableEq K]

structure Core (P : Program) (kT : TypeId) (KK : Kd K) (VK : Kd V) (w : World) (c b h : Nat) (D : DataW Unit) (S : Nat → Prop) (most : Nat) (E : List (Ent K V)) : Prop where
  most : w.cell? ⟨c, 0, none⟩ = some (.int .i64 most)
  head : w.cell? ⟨c, 1, none⟩ = some (.pointer (some ⟨h, 0, none⟩))
  by' : w.cell? ⟨c, 2, none⟩ = some (.map (some b))
  liveC : Live w c
  own : w.ownsMap P kT ptrR b E.length D
  has : ∀ k, Maps.has D (KK.lit k) = decide (k ∈ E.map Ent.key)
  at' : ∀ e ∈ E, ∀ z, D.atKey (KK.lit e.key) z = .lit (.int .i64 e.blk)
  size : Maps.size D = E.length
  keys : (E.map Ent.key).Nodup
  ring : Seg w h (E.map Ent.blk) h
  nod : (c :: h :: E.map Ent.blk).Nodup
  live : ∀ x ∈ h :: E.map Ent.blk, Live w x
  ents : ∀ e ∈ E, HasCells w e.blk 2 (KK.cells e.key ++ VK.cells e.val)
  sub : S c ∧ S b ∧ ∀ x ∈ h :: E.map Ent.blk, S x

def CacheAt (P : Program) (kT : TypeId) (KK : Kd K) (VK : Kd V) (w : World) (c : Nat) (S : Nat → Prop) (most : Nat) (E : List (Ent K V)) : Prop :=
  ∃ b h D, Core P kT KK VK w c b h D S most E

variable {P : Program} {kT : TypeId} {KK : Kd K} {VK : Kd V} {w w' : World} {c b h most : Nat} {D : DataW Unit} {S : Nat → Prop} {E : List (Ent K V)}

theorem Core.frame (C : Core P kT KK VK w c b h D S most E) (hs : Same S w w') : Core P kT KK VK w' c b h D S most E where
  most := hs.cell C.sub.1 C.most
  head := hs.cell C.sub.1 C.head
  by' := hs.cell C.sub.1 C.by'
  liveC := hs.live C.sub.1 C.liveC
  own := by
    have hlt := C.own.lt
    obtain ⟨es, clock, hb, r⟩ := C.own
    exact ⟨es, clock, (hs b hlt C.sub.2.1).trans hb, r⟩
  has := C.has
  at' := C.at'
  size := C.size
  keys := C.keys
  ring := hs.seg _ _ _ (C.sub.2.2 h (by simp)) (C.sub.2.2 h (by simp)) (fun x hx => C.sub.2.2 x (by simp [hx])) C.ring
  nod := C.nod
  live := fun x hx => hs.live (C.sub.2.2 x hx) (C.live x hx)
  ents := fun e he => hs.cells (C.sub.2.2 e.blk (List.mem_cons_of_mem _ (List.mem_map_of_mem he))) (C.ents e he)
  sub := C.sub

theorem Core.wider {T : Nat → Prop} (C : Core P kT KK VK w c b h D S most E) (hs : ∀ x, S x → T x) : Core P kT KK VK w c b h D T most E :=
  { C with sub := ⟨hs _ C.sub.1, hs _ C.sub.2.1, fun x hx => hs _ (C.sub.2.2 x hx)⟩ }

theorem CacheAt.frame (C : CacheAt P kT KK VK w c S most E) (hs : Same S w w') : CacheAt P kT KK VK w' c S most E := by
  obtain ⟨b, h, D, C⟩ := C
  exact ⟨b, h, D, C.frame hs⟩

theorem CacheAt.wider {T : Nat → Prop} (C : CacheAt P kT KK VK w c S most E) (hs : ∀ x, S x → T x) : CacheAt P kT KK VK w c T most E := by
  obtain ⟨b, h, D, C⟩ := C
  exact ⟨b, h, D, C.wider hs⟩

theorem Core.drew (C : Core P kT KK VK w c b h D S most E) : Core P kT KK VK w.drew c b h D S most E := C.frame (fun _ _ _ => rfl)

theorem ownsMap_tight {R : Value → Option (DataW Unit × List MemPlace)} {n : Nat} (h : w.ownsMap P kT R b n D) : w.ownsMap P kT R b (Maps.size D) D := by
  obtain ⟨es, clock, hb, F, _, rfl⟩ := h
  refine ⟨es, clock, hb, F, ?_, rfl⟩
  simp [Maps.size, length_sorted]

end

end Go.Proofs.Cc
