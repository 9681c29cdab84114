/- Plain: the calls of a cache upon its memory, and upon the list of its entries. No program in sight. -/
import Derived.Test.YteboancapfgdeaaCcOps
namespace Go.Proofs.Cc
open Go Go.RowKit Go.WideShapes
open Go.Maps (Keyed)

structure KeyOk {K : Type} (KK : Kd K) : Prop where
  inj : ∀ a b, KK.lit a = KK.lit b → a = b
  lit : ∀ a, WideAt.IsKeyLit (KK.lit a)

theorem ptrR_nil {v : Value} {ps : List MemPlace} (h : ptrR v = some (.nil, ps)) : v = .pointer none := by
  unfold ptrR at h
  split at h
  · injection h with h
    injection h with h _
    cases h
  · rfl
  · cases h

/-- 'v, ok := m[k]' at a key that is there. -/
theorem lookup_hit {P : Program} {w : World} {ops : Array Oper} {rest : List Oper} {o : Oper} {a : Act} {Q : Exit → Act → World → Prop}
    (hg : o.guard = none) (m x : Operand) (t : TypeId) (hop : o.op = Op.lookup t m x true)
    (k e : TypeId) (K : Keyed P k) (ht : P.underlying t = some (.map k e)) (hz : (zeroValue e).run P w = .ok (.pointer none) w) (b n : Nat) (D : DataW Unit)
    (hm : a.eval m = .map (some b)) (hown : w.ownsMap P k ptrR b n D) (key : Value) (kl : Lit) (hx : a.eval x = key) (hkey : keyOf P k key = some kl)
    (blk : Nat) (hat : ∀ z, D.atKey kl z = .lit (.int .i64 blk)) (hhas : Maps.has D kl = true)
    (hK : wpList P ops Q rest (a.put o.dst (.tuple #[.pointer (some ⟨blk, 0, none⟩), .bool true])) w) : wpList P ops Q (o :: rest) a w :=
  wpList_lookup_own_ok w hg m x t hop k e K ht ptrR hz .nil [] rfl b n D hm hown key kl hx hkey (fun v ps hv => by
    rw [hat] at hv
    obtain ⟨n, h1, rfl⟩ := ptrR_inv hv
    have : blk = n := by omega
    subst this
    rw [hhas]
    exact hK)

/-- .. at a key that is not. -/
theorem lookup_miss {P : Program} {w : World} {ops : Array Oper} {rest : List Oper} {o : Oper} {a : Act} {Q : Exit → Act → World → Prop}
    (hg : o.guard = none) (m x : Operand) (t : TypeId) (hop : o.op = Op.lookup t m x true)
    (k e : TypeId) (K : Keyed P k) (ht : P.underlying t = some (.map k e)) (hz : (zeroValue e).run P w = .ok (.pointer none) w) (b n : Nat) (D : DataW Unit)
    (hm : a.eval m = .map (some b)) (hown : w.ownsMap P k ptrR b n D) (key : Value) (kl : Lit) (hx : a.eval x = key) (hkey : keyOf P k key = some kl)
    (hhas : Maps.has D kl = false)
    (hK : wpList P ops Q rest (a.put o.dst (.tuple #[.pointer none, .bool false])) w) : wpList P ops Q (o :: rest) a w :=
  wpList_lookup_own_ok w hg m x t hop k e K ht ptrR hz .nil [] rfl b n D hm hown key kl hx hkey (fun v ps hv => by
    rw [Maps.atKey_of_not_has hhas] at hv
    rw [ptrR_nil hv, hhas]
    exact hK)

def kv {K V : Type} (e : Ent K V) : K × V := (e.key, e.val)

theorem keys_kv {K V : Type} (E : List (Ent K V)) : (E.map kv).map (·.1) = E.map Ent.key := by
  rw [List.map_map]; rfl

theorem key_split {K V : Type} {k : K} {E : List (Ent K V)} (h : k ∈ E.map Ent.key) : ∃ p e q, E = p ++ e :: q ∧ e.key = k := by
  obtain ⟨e, he, hk⟩ := List.mem_map.1 h
  obtain ⟨p, q, rfl⟩ := List.append_of_mem he
  exact ⟨p, e, q, rfl, hk⟩

section
variable {K V : Type} [DecidableEq K]

def rmD (k : K) (L : List (K × V)) : List (K × V) := L.filter (fun p => decide (p.1 ≠ k))
def rmE (k : K) (E : List (Ent K V)) : List (Ent K V) := E.filter (fun p => decide (p.key ≠ k))
def look (k : K) (L : List (K × V)) : Option V := (L.find? (fun p => decide (p.1 = k))).map (·.2)

theorem map_rmE (k : K) (E : List (Ent K V)) : (rmE k E).map kv = rmD k (E.map kv) := by
  unfold rmE rmD
  rw [List.filter_map]
  rfl

theorem rmE_mid {k : K} {p q : List (Ent K V)} {e : Ent K V} (hk : e.key = k) (hn : ((p ++ e :: q).map Ent.key).Nodup) : rmE k (p ++ e :: q) = p ++ q := by
  subst hk
  unfold rmE
  rw [List.map_append, List.map_cons] at hn
  have hn2 := List.nodup_append.1 hn
  have hn3 := List.nodup_cons.1 hn2.2.1
  rw [List.filter_append, List.filter_cons]
  simp only [ne_eq, not_true_eq_false, decide_false, Bool.false_eq_true, ↓reduceIte]
  rw [List.filter_eq_self.2, List.filter_eq_self.2]
  · intro a ha
    have : a.key ≠ e.key := fun x => hn3.1 (x ▸ List.mem_map_of_mem ha)
    simp [this]
  · intro a ha
    have : a.key ≠ e.key := fun x => hn2.2.2 a.key (List.mem_map_of_mem ha) e.key (by simp) x
    simp [this]

theorem rmE_none {k : K} {E : List (Ent K V)} (h : k ∉ E.map Ent.key) : rmE k E = E := by
  unfold rmE
  rw [List.filter_eq_self]
  intro a ha
  have : a.key ≠ k := fun x => h (x ▸ List.mem_map_of_mem ha)
  simp [this]

theorem not_mem_rmE (k : K) (E : List (Ent K V)) : k ∉ (rmE k E).map Ent.key := by
  intro h
  obtain ⟨e, he, hk⟩ := List.mem_map.1 h
  have := (List.mem_filter.1 he).2
  simp [hk] at this

theorem look_mid {k : K} {p q : List (Ent K V)} {e : Ent K V} (hk : e.key = k) (hn : ((p ++ e :: q).map Ent.key).Nodup) : look k ((p ++ e :: q).map kv) = some e.val := by
  subst hk
  unfold look
  rw [List.map_append, List.map_cons] at hn
  have hn2 := List.nodup_append.1 hn
  rw [List.map_append, List.find?_append, List.find?_eq_none.2]
  · simp [kv]
  · intro a ha
    obtain ⟨x, hx, rfl⟩ := List.mem_map.1 ha
    have : x.key ≠ e.key := fun y => hn2.2.2 x.key (List.mem_map_of_mem hx) e.key (by simp) y
    simp [kv, this]

theorem look_none {k : K} {E : List (Ent K V)} (h : k ∉ E.map Ent.key) : look k (E.map kv) = none := by
  unfold look
  rw [List.find?_eq_none.2]
  · rfl
  · intro a ha
    obtain ⟨x, hx, rfl⟩ := List.mem_map.1 ha
    have : x.key ≠ k := fun y => h (y ▸ List.mem_map_of_mem hx)
    simp [kv, this]

variable {P : Program} {kT : TypeId} {KK : Kd K} {VK : Kd V} {w w1 w2 : World} {c b h most : Nat} {D : DataW Unit} {S : Nat → Prop} {E : List (Ent K V)}

theorem Core.ring_sub (C : Core P kT KK VK w c b h D S most E) : ∀ x, inRing h E x → S x := C.sub.2.2

theorem Core.ownTouched (C : Core P kT KK VK w c b h D S most E) (T : Brushed (inRing h E) w w1) : w1.ownsMap P kT ptrR b E.length D := by
  obtain ⟨es, clock, hb, r⟩ := C.own
  exact ⟨es, clock, (T.block b C.notB).trans hb, r⟩

/-- An entry is used: it stands first. -/
theorem Core.get (C : Core P kT KK VK w c b h D S most E) {p q : List (Ent K V)} {e : Ent K V} (hE : E = p ++ e :: q) (T : Brushed (inRing h E) w w1) (ring : Seg w1 h ((e :: (p ++ q)).map Ent.blk) h) :
    Core P kT KK VK w1 c b h D S most (e :: (p ++ q)) := by
  have hp : List.Perm E (e :: (p ++ q)) := by rw [hE]; exact List.perm_middle
  have hown := C.ownTouched T
  refine C.re T (fun _ _ => rfl) (by rw [← hp.length_eq]; exact hown) (fun x hx => hp.mem_iff.2 hx) ?_ (fun x hx => C.at' x (hp.mem_iff.2 hx)) (by rw [C.size, hp.length_eq]) ?_ ?_ ring
  · intro k
    rw [C.has k, decide_eq_decide]
    exact (hp.map Ent.key).mem_iff
  · exact ((hp.map Ent.key).nodup_iff).1 C.keys
  · exact ((hp.map Ent.blk).nodup_iff).1 (List.nodup_cons.1 (List.nodup_cons.1 C.nod).2).2

theorem Core.laid (C : Core P kT KK VK w c b h D S most E) {p q : List (Ent K V)} {e : Ent K V} (hE : E = p ++ e :: q) (ring : Seg w1 h ((p ++ q).map Ent.blk) h)
    {u v : Value} (c0 : w1.cell? ⟨e.blk, 0, none⟩ = some u) (c1 : w1.cell? ⟨e.blk, 1, none⟩ = some v) :
    ∃ f, inRing h E f ∧ f ≠ e.blk ∧ e.blk ≠ c ∧ e.blk ≠ h ∧ inRing h E e.blk ∧ link w1 h f ∧ Seg (lays w1 h f e.blk) h ((e :: (p ++ q)).map Ent.blk) h := by
  have hp : List.Perm E (e :: (p ++ q)) := by rw [hE]; exact List.perm_middle
  have hn := List.nodup_cons.1 C.nod
  have hb : List.Perm (h :: E.map Ent.blk) (h :: e.blk :: (p ++ q).map Ent.blk) := (hp.map Ent.blk).cons h
  have hn2 := List.nodup_cons.1 (hb.nodup_iff.1 hn.2)
  have hn3 := List.nodup_cons.1 hn2.2
  have hin : inRing h E e.blk := hb.mem_iff.2 (by simp)
  have heh : e.blk ≠ h := fun x => hn2.1 (by simp [x])
  have hnot : e.blk ∉ h :: (p ++ q).map Ent.blk := by
    intro x
    rcases List.mem_cons.1 x with x | x
    · exact heh x
    · exact hn3.1 x
  have hfm := List.head_mem (l := (p ++ q).map Ent.blk ++ [h]) (by simp)
  refine ⟨((p ++ q).map Ent.blk ++ [h]).head (by simp), ?_, ?_, fun x => hn.1 (x ▸ hin), heh, hin, seg_first h h _ ring, ?_⟩
  · refine hb.mem_iff.2 ?_
    rcases List.mem_append.1 hfm with x | x
    · exact List.mem_cons_of_mem _ (List.mem_cons_of_mem _ x)
    · simp only [List.mem_singleton] at x; rw [x]; simp
  · intro x
    rcases List.mem_append.1 hfm with y | y
    · exact hn3.1 (x ▸ y)
    · simp only [List.mem_singleton] at y; exact heh (x.symm.trans y)
  · have hn4 : (h :: (p ++ q).map Ent.blk).Nodup := List.nodup_cons.2 ⟨fun x => hn2.1 (List.mem_cons_of_mem _ x), hn3.2⟩
    exact ring_lay ring hn4 hnot rfl c0 c1

/-- An entry goes. -/
theorem Core.drop (C : Core P kT KK VK w c b h D S most E) (O : KeyOk KK) {p q : List (Ent K V)} {e : Ent K V} (hE : E = p ++ e :: q) (T : Brushed (inRing h E) w w1) (ring : Seg w1 h ((p ++ q).map Ent.blk) h) {n : Nat}
    (own : w2.ownsMap P kT ptrR b n (D.del (KK.lit e.key))) (turn : w1.mapTurned w2 b) (Kd' : Keyed P kT) : Core P kT KK VK w2 c b h (D.del (KK.lit e.key)) S most (p ++ q) ∧ Turn S w w2 := by
  have hg := turn.grown
  have hsz := C.size
  have hsd := Maps.size_del (k := KK.lit e.key) (C.own.tidy Kd')
  have hhas : Maps.has D (KK.lit e.key) = true := by rw [C.has]; simp [hE]
  rw [hhas, if_pos rfl] at hsd
  have hlen : E.length = (p ++ q).length + 1 := by rw [hE]; simp; omega
  have hsize : Maps.size (D.del (KK.lit e.key)) = (p ++ q).length := by omega
  have hkeys := C.keys
  have hk2 : (e.key :: (p ++ q).map Ent.key).Nodup := by
    have hp : List.Perm E (e :: (p ++ q)) := by rw [hE]; exact List.perm_middle
    exact ((hp.map Ent.key).nodup_iff).1 hkeys
  have hb2 : ((p ++ q).map Ent.blk).Nodup := by
    have hp : List.Perm E (e :: (p ++ q)) := by rw [hE]; exact List.perm_middle
    exact (List.nodup_cons.1 (((hp.map Ent.blk).nodup_iff).1 (List.nodup_cons.1 (List.nodup_cons.1 C.nod).2).2)).2
  have hsub : ∀ x, x ∈ p ++ q → x ∈ E := by
    intro x hx
    rw [hE]
    rcases List.mem_append.1 hx with y | y
    · exact List.mem_append_left _ y
    · exact List.mem_append_right _ (List.mem_cons_of_mem _ y)
  have hne : ∀ k, k ≠ e.key → KK.lit k ≠ KK.lit e.key := fun k hk x => hk (O.inj _ _ x)
  refine ⟨C.re T (w'' := w2) ?_ (by rw [← hsize]; exact ownsMap_tight own) hsub ?_ ?_ hsize (List.nodup_cons.1 hk2).2 hb2 ring, (T.turn C.ring_sub).grown hg (fun k hk => ?_)⟩
  · intro k hk
    obtain ⟨es, clock, es', clock', hb, rfl⟩ := turn
    exact ChangeMaps.heap_setBlock_other hb _ hk
  · intro k
    by_cases hk : k = e.key
    · subst hk
      rw [Maps.has_del_same]
      have := (List.nodup_cons.1 hk2).1
      simp only [this, decide_false]
    · rw [Maps.has_del_other (hne k hk), C.has, decide_eq_decide, hE]
      simp [hk]
  · intro x hx z
    have : x.key ≠ e.key := fun y => (List.nodup_cons.1 hk2).1 (y ▸ List.mem_map_of_mem hx)
    rw [Maps.atKey_del_other (hne _ this)]
    exact C.at' x (hsub x hx) z
  · cases hk
    exact .inl C.sub.2.1

def putD (most : Nat) (k : K) (v : V) (L : List (K × V)) : List (K × V) := if most < ((k, v) :: rmD k L).length then ((k, v) :: rmD k L).dropLast else (k, v) :: rmD k L

theorem Core.last (C : Core P kT KK VK w c b h D S most E) (hE : E ≠ []) : ∃ p e, E = p ++ [e] ∧ w.cell? ⟨h, 1, none⟩ = some (.pointer (some ⟨e.blk, 0, none⟩)) := by
  have hd := List.dropLast_concat_getLast hE
  refine ⟨E.dropLast, E.getLast hE, hd.symm, ?_⟩
  have hr := C.ring
  rw [← hd, List.map_append, List.map_cons, List.map_nil] at hr
  exact ((seg_app _ _ _ _ _).1 hr).2.2

/-- A new entry, laid into the map: what the laying down of it asks for. -/
theorem Core.fresh (C : Core P kT KK VK w1 c b h D S most E) {t : TypeId} {k : K} {v : V} {w3 : World} (hw : w2 = w1.alloc (.cells (.pointer none :: .pointer none :: (KK.cells k ++ VK.cells v)).toArray t)) 
    (turn : w2.mapTurned w3 b) :
    ∃ f, (f = h ∨ inRing h E f) ∧ f < w1.heap.size ∧ link w3 h f ∧ w3.cell? ⟨c, 1, none⟩ = some (.pointer (some ⟨h, 0, none⟩)) ∧ w3.cell? ⟨w1.heap.size, 0, none⟩ = some (.pointer none) ∧ w3.cell? ⟨w1.heap.size, 1, none⟩ = some (.pointer none) ∧
      Live w3 h ∧ Live w3 f ∧ Live w3 w1.heap.size ∧ c < w1.heap.size ∧ h < w1.heap.size ∧ h ≠ c ∧ Turn S w1 w3 ∧ w3.heap.size = w1.heap.size + 1 ∧ (∀ x, x ≠ b → x < w1.heap.size → w3.heap[x]? = w1.heap[x]?) ∧
      w3.heap[w1.heap.size]? = some (.cells (.pointer none :: .pointer none :: (KK.cells k ++ VK.cells v)).toArray t (0, 0)) ∧ Seg (lays w3 h f w1.heap.size) h (w1.heap.size :: E.map Ent.blk) h := by
  have hb := C.own.lt
  have hnb := C.notB
  have hbc := C.bc
  obtain ⟨es, clock, es', clock', hbb, hw3⟩ := turn
  have hsz : w3.heap.size = w1.heap.size + 1 := by rw [hw3, hw]; simp [ChangeMaps.setBlock]
  have hold : ∀ x, x ≠ b → x < w1.heap.size → w3.heap[x]? = w1.heap[x]? := by
    intro x hx hlt
    rw [hw3, ChangeMaps.heap_setBlock_other hbb _ hx, hw, Below.heap_alloc _ _ _ hlt]
  have hnew : w3.heap[w1.heap.size]? = some (.cells (.pointer none :: .pointer none :: (KK.cells k ++ VK.cells v)).toArray t (0, 0)) := by
    rw [hw3, ChangeMaps.heap_setBlock_other hbb _ (by omega), hw]
    exact (MapKept.heap_alloc w1 _).1
  have hcell : ∀ x o, x ≠ b → x < w1.heap.size → w3.cell? ⟨x, o, none⟩ = w1.cell? ⟨x, o, none⟩ := fun x o hx hl => World.cell?_of_block (w := w1) (a := ⟨x, o, none⟩) (hold x hx hl)
  have hlive : ∀ x, x ≠ b → Live w1 x → Live w3 x := fun x hx hl => by
    have hlt := hl.lt
    obtain ⟨cs, e, hl⟩ := hl
    exact ⟨cs, e, (hold x hx hlt).trans hl⟩
  have nb : ∀ x, inRing h E x → x ≠ b := fun x hx e => hnb (e ▸ hx)
  have lt : ∀ x, inRing h E x → x < w1.heap.size := fun x hx => (C.live x hx).lt
  have rh : inRing h E h := by unfold inRing; simp
  have hseg : Seg w3 h (E.map Ent.blk) h := by
    refine seg_frame _ _ _ (fun x hx => hcell x 0 (nb x hx) (lt x hx)) (fun y hy => ?_) C.ring
    have hy' : inRing h E y := by
      rcases List.mem_append.1 hy with z | z
      · exact List.mem_cons_of_mem _ z
      · simp only [List.mem_singleton] at z; rw [z]; exact rh
    exact hcell y 1 (nb y hy') (lt y hy')
  have hfm := List.head_mem (l := E.map Ent.blk ++ [h]) (by simp)
  have hf : inRing h E ((E.map Ent.blk ++ [h]).head (by simp)) := by
    rcases List.mem_append.1 hfm with z | z
    · exact List.mem_cons_of_mem _ z
    · simp only [List.mem_singleton] at z; rw [z]; exact rh
  have n0 : w3.cell? ⟨w1.heap.size, 0, none⟩ = some (.pointer none) := by simp [World.cell?, hnew]
  have n1 : w3.cell? ⟨w1.heap.size, 1, none⟩ = some (.pointer none) := by simp [World.cell?, hnew]
  have hT : Turn S w1 w3 := by
    rw [hw3, hw]
    refine ((Turn.refl S w1).alloc _).grown (row := some b) (by rw [← hw, ← hw3]; exact World.mapTurned.grown ⟨es, clock, es', clock', hbb, hw3⟩) (fun x hx => ?_)
    cases hx
    exact .inl C.sub.2.1
  refine ⟨(E.map Ent.blk ++ [h]).head (by simp), .inr hf, lt _ hf, seg_first h h _ hseg, ?_, n0, n1, hlive h (nb h rh) (C.live h rh), hlive _ (nb _ hf) (C.live _ hf), ⟨_, _, hnew⟩, C.liveC.lt, lt h rh, ?_, hT, hsz, hold, hnew, ?_⟩
  · rw [hcell c 1 (Ne.symm hbc) C.liveC.lt]; exact C.head
  · intro x; exact C.notC (x ▸ rh)
  · exact ring_lay hseg (List.nodup_cons.1 C.nod).2 (fun x => Nat.lt_irrefl _ (lt _ x)) rfl n0 n1

/-- .. and laid down. -/
theorem Core.put (C : Core P kT KK VK w1 c b h D S most E) (O : KeyOk KK) (Kd' : Keyed P kT) {t : TypeId} {k : K} {v : V} {w3 w4 : World} {f n : Nat} (hk : k ∉ E.map Ent.key)
    (own : w3.ownsMap P kT ptrR b n (D.put (KK.lit k) (.lit (.int .i64 w1.heap.size)))) (hold : ∀ x, x ≠ b → x < w1.heap.size → w3.heap[x]? = w1.heap[x]?)
    (hnew : w3.heap[w1.heap.size]? = some (.cells (.pointer none :: .pointer none :: (KK.cells k ++ VK.cells v)).toArray t (0, 0))) (hf : f = h ∨ inRing h E f) (ring : Seg (lays w3 h f w1.heap.size) h (w1.heap.size :: E.map Ent.blk) h) (hT : Turn S w1 w3)
    (hw : w4 = (lays w3 h f w1.heap.size).drew.drew) :
    Core P kT KK VK w4 c b h (D.put (KK.lit k) (.lit (.int .i64 w1.heap.size))) (Grow S w1) most (⟨w1.heap.size, k, v⟩ :: E) ∧ Turn S w1 w4 := by
  have hnb := C.notB
  have hbc := C.bc
  have hnc := C.notC
  have rh : inRing h E h := by unfold inRing; simp
  have nb : ∀ x, inRing h E x → x ≠ b := fun x hx e => hnb (e ▸ hx)
  have lt : ∀ x, inRing h E x → x < w1.heap.size := fun x hx => (C.live x hx).lt
  have hcl := C.liveC.lt
  have hbl := C.own.lt
  have hfr : inRing h E f := hf.elim (fun e => e ▸ rh) id
  have T : Brushed (fun x => inRing h E x ∨ x = w1.heap.size) w3 w4 := by rw [hw]; exact (lays_touch (.inl rh) (.inl hfr) (.inr rfl)).drew.drew
  have hcell : ∀ x o, x ≠ b → x < w1.heap.size → w3.cell? ⟨x, o, none⟩ = w1.cell? ⟨x, o, none⟩ := fun x o hx hl => World.cell?_of_block (w := w1) (a := ⟨x, o, none⟩) (hold x hx hl)
  have hlive : ∀ x, x ≠ b → Live w1 x → Live w3 x := fun x hx hl => by
    have hlt := hl.lt
    obtain ⟨cs, e, hl⟩ := hl
    exact ⟨cs, e, (hold x hx hlt).trans hl⟩
  have ncx : ¬ (inRing h E c ∨ c = w1.heap.size) := fun x => x.elim hnc (fun e => by omega)
  have nbx : ¬ (inRing h E b ∨ b = w1.heap.size) := fun x => x.elim hnb (fun e => by omega)
  have own4 : w4.ownsMap P kT ptrR b n (D.put (KK.lit k) (.lit (.int .i64 w1.heap.size))) := by
    obtain ⟨es, clock, hb', r⟩ := own
    exact ⟨es, clock, (T.block b nbx).trans hb', r⟩
  have hne : ∀ k', k' ≠ k → KK.lit k' ≠ KK.lit k := fun k' hk' x => hk' (O.inj _ _ x)
  have htd := C.own.tidy Kd'
  have hsize : Maps.size (D.put (KK.lit k) (.lit (.int .i64 w1.heap.size))) = E.length + 1 := by
    rw [Maps.size_put htd, C.has, C.size]
    simp [hk]
  have hnod : w1.heap.size ∉ h :: E.map Ent.blk := fun x => Nat.lt_irrefl _ (lt _ x)
  have hn := List.nodup_cons.1 C.nod
  have hn2 := List.nodup_cons.1 hn.2
  refine ⟨⟨?_, ?_, ?_, ?_, by rw [List.length_cons, ← hsize]; exact ownsMap_tight own4, ?_, ?_, by rw [hsize]; rfl, ?_, by rw [hw]; exact ring.drew.drew, ?_, ?_, ?_, ?_⟩, ?_⟩
  · rw [T.other ncx, hcell c 0 (Ne.symm hbc) hcl]; exact C.most
  · rw [T.other ncx, hcell c 1 (Ne.symm hbc) hcl]; exact C.head
  · rw [T.other ncx, hcell c 2 (Ne.symm hbc) hcl]; exact C.by'
  · exact T.live c (hlive c (Ne.symm hbc) C.liveC)
  · intro k'
    by_cases hk' : k' = k
    · subst hk'
      rw [Maps.has_put_same htd.isMap (O.lit _)]
      simp
    · rw [Maps.has_put_other (hne k' hk'), C.has, decide_eq_decide]
      simp [hk']
  · intro e he z
    rcases List.mem_cons.1 he with rfl | he
    · exact Maps.atKey_put_same htd.isMap (O.lit _) _ _
    · have : e.key ≠ k := fun x => hk (x ▸ List.mem_map_of_mem he)
      rw [Maps.atKey_put_other (hne _ this)]
      exact C.at' e he z
  · exact List.nodup_cons.2 ⟨hk, C.keys⟩
  · refine List.nodup_cons.2 ⟨?_, List.nodup_cons.2 ⟨?_, List.nodup_cons.2 ⟨fun x => hnod (List.mem_cons_of_mem _ x), hn2.2⟩⟩⟩
    · intro x
      rcases List.mem_cons.1 x with x | x
      · exact hn.1 (by rw [x]; simp)
      · rcases List.mem_cons.1 x with x | x
        · simp only at x; omega
        · exact hn.1 (List.mem_cons_of_mem _ x)
    · intro x
      rcases List.mem_cons.1 x with x | x
      · have := lt h rh; rw [x] at this; exact absurd this (Nat.lt_irrefl _)
      · exact hn2.1 x
  · intro x hx
    rcases List.mem_cons.1 hx with rfl | hx
    · exact T.live _ (hlive _ (nb _ rh) (C.live _ rh))
    · rcases List.mem_cons.1 hx with rfl | hx
      · exact T.live _ ⟨_, _, hnew⟩
      · have hx' : inRing h E x := List.mem_cons_of_mem _ hx
        exact T.live _ (hlive _ (nb _ hx') (C.live _ hx'))
  · intro e he i u hi
    rcases List.mem_cons.1 he with rfl | he
    · rw [T.cell _ _ (by omega)]
      have : 2 + i = i + 1 + 1 := by omega
      rw [this]
      simp only [World.cell?, hnew, Option.isSome_none, Bool.false_eq_true, ↓reduceIte, List.getElem?_toArray, List.getElem?_cons_succ]
      exact hi
    · have hx : inRing h E e.blk := List.mem_cons_of_mem _ (List.mem_map_of_mem he)
      rw [T.cell _ _ (by omega), hcell _ _ (nb _ hx) (lt _ hx)]
      exact C.ents e he i u hi
  · refine ⟨.inl C.sub.1, .inl C.sub.2.1, fun x hx => ?_⟩
    rcases List.mem_cons.1 hx with rfl | hx
    · exact .inl (C.sub.2.2 _ rh)
    · rcases List.mem_cons.1 hx with rfl | hx
      · exact .inr (Nat.le_refl _)
      · exact .inl (C.sub.2.2 _ (List.mem_cons_of_mem _ hx))
  · refine hT.trans (T.turn (fun x hx => ?_))
    rcases hx with hx | rfl
    · exact .inl (C.ring_sub x hx)
    · exact .inr (Nat.le_refl _)

/-- A cache behind 'empty'. -/
theorem cache_emptied {most : Nat} (hm : w.cell? ⟨c, 0, none⟩ = some (.int .i64 most)) {u v : Value} (h1 : w.cell? ⟨c, 1, none⟩ = some u) (h2 : w.cell? ⟨c, 2, none⟩ = some v) (hl : Live w c) (hS : S c) {t : TypeId} {zs : List Value}
    (hw : w1 = (emptied w c t zs).drew) : CacheAt P kT KK VK w1 c (Grow S w) most [] ∧ Turn S w w1 := by
  have hlt := hl.lt
  have hs1 : (w.setCell ⟨c, 2, none⟩ (.map (some w.heap.size))).heap.size = w.heap.size := by simp [World.setCell]
  have hs2 : ((w.setCell ⟨c, 2, none⟩ (.map (some w.heap.size))).setCell ⟨c, 1, none⟩ (.pointer (some ⟨w.heap.size + 1, 0, none⟩))).heap.size = w.heap.size := by simp [World.setCell]
  generalize hA : (w.setCell ⟨c, 2, none⟩ (.map (some w.heap.size))).setCell ⟨c, 1, none⟩ (.pointer (some ⟨w.heap.size + 1, 0, none⟩)) = A at hs2
  have hlA : Live A c := by rw [← hA]; exact (hl.setCell _ _).setCell _ _
  have a0 : A.cell? ⟨c, 0, none⟩ = some (.int .i64 most) := by rw [← hA, cell_set_other (.inr (by decide)), cell_set_other (.inr (by decide))]; exact hm
  have a1 : A.cell? ⟨c, 1, none⟩ = some (.pointer (some ⟨w.heap.size + 1, 0, none⟩)) := by rw [← hA]; exact cell_set_same (by rw [cell_set_other (.inr (by decide))]; exact h1)
  have a2 : A.cell? ⟨c, 2, none⟩ = some (.map (some w.heap.size)) := by rw [← hA, cell_set_other (.inr (by decide))]; exact cell_set_same h2
  have hw' : w1 = ((A.alloc (.map #[] 0)).alloc (.cells (.pointer (some ⟨w.heap.size + 1, 0, none⟩) :: .pointer (some ⟨w.heap.size + 1, 0, none⟩) :: zs).toArray t)).drew := by
    rw [hw]; unfold emptied; rw [hA]
  have hB1 : (A.alloc (.map #[] 0)).heap.size = w.heap.size + 1 := by simp [hs2]
  have hold : ∀ k, k < w.heap.size → w1.heap[k]? = A.heap[k]? := by
    intro k hk
    rw [hw']
    show ((A.alloc _).alloc _).heap[k]? = _
    rw [Below.heap_alloc _ _ _ (by omega), Below.heap_alloc _ _ _ (by omega)]
  have hmap : w1.heap[w.heap.size]? = some (.map #[] 0) := by
    rw [hw']
    show ((A.alloc _).alloc _).heap[w.heap.size]? = _
    rw [Below.heap_alloc _ _ _ (by omega), ← hs2]
    exact (MapKept.heap_alloc A _).1
  have hent : w1.heap[w.heap.size + 1]? = some (.cells (.pointer (some ⟨w.heap.size + 1, 0, none⟩) :: .pointer (some ⟨w.heap.size + 1, 0, none⟩) :: zs).toArray t (0, 0)) := by
    rw [hw']
    show ((A.alloc _).alloc _).heap[w.heap.size + 1]? = _
    rw [← hB1]
    exact (MapKept.heap_alloc (A.alloc (.map #[] 0)) _).1
  have c0 : w1.cell? ⟨w.heap.size + 1, 0, none⟩ = some (.pointer (some ⟨w.heap.size + 1, 0, none⟩)) := by simp [World.cell?, hent]
  have c1 : w1.cell? ⟨w.heap.size + 1, 1, none⟩ = some (.pointer (some ⟨w.heap.size + 1, 0, none⟩)) := by simp [World.cell?, hent]
  have hcell : ∀ o, w1.cell? ⟨c, o, none⟩ = A.cell? ⟨c, o, none⟩ := fun o => World.cell?_of_block (w := A) (a := ⟨c, o, none⟩) (hold c hlt)
  refine ⟨⟨w.heap.size, w.heap.size + 1, .map [], ⟨(hcell 0).trans a0, (hcell 1).trans a1, (hcell 2).trans a2, ?_, ⟨#[], 0, hmap, ⟨by simp, MapKept.stamped_empty 0, by simp⟩, Nat.le_refl _, rfl⟩, fun k => rfl, by simp, rfl, List.nodup_nil, ⟨c0, c1⟩, ?_, ?_, by simp, ?_⟩⟩, ?_⟩
  · obtain ⟨cs, e, hx⟩ := hlA
    exact ⟨cs, e, (hold c hlt).trans hx⟩
  · simp; omega
  · intro x hx
    simp at hx
    subst hx
    exact ⟨_, _, hent⟩
  · refine ⟨.inl hS, .inr (Nat.le_refl _), fun x hx => ?_⟩
    simp at hx
    subst hx
    exact .inr (Nat.le_succ _)
  · rw [hw', ← hA]
    exact (((((Turn.refl S w).setCell (.inl hS) _).setCell (.inl hS) _).alloc _).alloc _).drew

theorem Core.emptied (C : Core P kT KK VK w c b h D S most E) {t : TypeId} {zs : List Value} (hw : w1 = (emptied w c t zs).drew) : CacheAt P kT KK VK w1 c (Grow S w) most [] ∧ Turn S w w1 :=
  cache_emptied C.most C.head C.by' C.liveC C.sub.1 hw

end

end Go.Proofs.Cc
