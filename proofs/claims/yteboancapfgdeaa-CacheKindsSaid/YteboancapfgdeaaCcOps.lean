/- Plain: what a cut and a laying do to a cache in memory. No program in sight. -/
import Derived.Test.YteboancapfgdeaaCcMem
namespace Go.Proofs.Cc
open Go Go.RowKit

/-- What a laying does: e behind h, ahead of f. -/
def lays (w : World) (h f e : Nat) : World :=
  (((w.setCell ⟨e, 1, none⟩ (.pointer (some ⟨h, 0, none⟩))).setCell ⟨e, 0, none⟩ (.pointer (some ⟨f, 0, none⟩))).setCell ⟨f, 1, none⟩ (.pointer (some ⟨e, 0, none⟩))).setCell ⟨h, 0, none⟩ (.pointer (some ⟨e, 0, none⟩))

/-- What 'empty' does. -/
def emptied (w : World) (c : Nat) (t : TypeId) (zs : List Value) : World :=
  (((w.setCell ⟨c, 2, none⟩ (.map (some w.heap.size))).setCell ⟨c, 1, none⟩ (.pointer (some ⟨w.heap.size + 1, 0, none⟩))).alloc (.map #[] 0)).alloc
    (.cells (.pointer (some ⟨w.heap.size + 1, 0, none⟩) :: .pointer (some ⟨w.heap.size + 1, 0, none⟩) :: zs).toArray t)

/-- Only the first two cells of blocks of X may have turned. -/
structure Brushed (X : Nat → Prop) (w w' : World) : Prop where
  os : w'.os = w.os
  tape : w'.tape = w.tape
  output : w'.output = w.output
  size : w'.heap.size = w.heap.size
  block : ∀ k, ¬ X k → w'.heap[k]? = w.heap[k]?
  cell : ∀ b o, 2 ≤ o → w'.cell? ⟨b, o, none⟩ = w.cell? ⟨b, o, none⟩
  live : ∀ b, Live w b → Live w' b

theorem Brushed.refl (X : Nat → Prop) (w : World) : Brushed X w w := ⟨rfl, rfl, rfl, rfl, fun _ _ => rfl, fun _ _ _ => rfl, fun _ h => h⟩

theorem Brushed.setCell {X : Nat → Prop} {a w : World} (h : Brushed X a w) {b o : Nat} (hb : X b) (ho : o < 2) (u : Value) : Brushed X a (w.setCell ⟨b, o, none⟩ u) :=
  ⟨h.os, h.tape, h.output, by simp [World.setCell, h.size], fun k hk => (Below.heap_setCell _ _ _ _ (fun e => hk (by rw [e]; exact hb))).trans (h.block k hk),
    fun c p hp => (cell_set_other (.inr (by omega))).trans (h.cell c p hp), fun c hc => (h.live c hc).setCell _ _⟩

theorem Brushed.drew {X : Nat → Prop} {a w : World} (h : Brushed X a w) : Brushed X a w.drew := ⟨h.os, h.tape, h.output, h.size, h.block, h.cell, h.live⟩

theorem Brushed.trans {X : Nat → Prop} {a b c : World} (h : Brushed X a b) (k : Brushed X b c) : Brushed X a c :=
  ⟨k.os.trans h.os, k.tape.trans h.tape, k.output.trans h.output, k.size.trans h.size, fun i hi => (k.block i hi).trans (h.block i hi), fun b o ho => (k.cell b o ho).trans (h.cell b o ho), fun b hb => k.live b (h.live b hb)⟩

theorem Brushed.mono {X Y : Nat → Prop} {a b : World} (h : Brushed X a b) (hs : ∀ x, X x → Y x) : Brushed Y a b :=
  ⟨h.os, h.tape, h.output, h.size, fun k hk => h.block k (fun x => hk (hs k x)), h.cell, h.live⟩

theorem Brushed.turn {X S : Nat → Prop} {a b : World} (h : Brushed X a b) (hs : ∀ x, X x → S x) : Turn S a b :=
  ⟨h.os, h.tape, h.output, Nat.le_of_eq h.size.symm, fun k _ hk => h.block k (fun x => hk (hs k x))⟩

theorem Brushed.other {X : Nat → Prop} {a b : World} (h : Brushed X a b) {c : Nat} (hc : ¬ X c) (o : Nat) : b.cell? ⟨c, o, none⟩ = a.cell? ⟨c, o, none⟩ :=
  World.cell?_of_block (w := a) (a := ⟨c, o, none⟩) (h.block c hc)

theorem tie_touch {X : Nat → Prop} {w : World} {a b : Nat} (ha : X a) (hb : X b) : Brushed X w (tie w a b) := ((Brushed.refl X w).setCell hb (by omega) _).setCell ha (by omega) _
theorem lays_touch {X : Nat → Prop} {w : World} {h f e : Nat} (hh : X h) (hf : X f) (he : X e) : Brushed X w (lays w h f e) :=
  ((((Brushed.refl X w).setCell he (by omega) _).setCell he (by omega) _).setCell hf (by omega) _).setCell hh (by omega) _

theorem seg_frame {w w' : World} : ∀ (r : List Nat) (a z : Nat), (∀ x ∈ a :: r, w'.cell? ⟨x, 0, none⟩ = w.cell? ⟨x, 0, none⟩) → (∀ y ∈ r ++ [z], w'.cell? ⟨y, 1, none⟩ = w.cell? ⟨y, 1, none⟩) → Seg w a r z → Seg w' a r z
  | [], a, z, h0, h1, h => ⟨(h0 a (by simp)).trans h.1, (h1 z (by simp)).trans h.2⟩
  | b :: r, a, z, h0, h1, h => ⟨⟨(h0 a (by simp)).trans h.1.1, (h1 b (by simp)).trans h.1.2⟩, seg_frame r b z (fun x hx => h0 x (List.mem_cons_of_mem _ hx)) (fun y hy => h1 y (List.mem_cons_of_mem _ hy)) h.2⟩

theorem Seg.drew {w : World} {a z : Nat} {r : List Nat} (h : Seg w a r z) : Seg w.drew a r z := seg_frame (w := w) (w' := w.drew) r a z (fun _ _ => rfl) (fun _ _ => rfl) h

/-- An entry is laid down. -/
theorem ring_lay {w : World} {h e f : Nat} {bs : List Nat} (hr : Seg w h bs h) (hn : (h :: bs).Nodup) (he : e ∉ h :: bs) (hf : f = (bs ++ [h]).head (by simp))
    {u v : Value} (c0 : w.cell? ⟨e, 0, none⟩ = some u) (c1 : w.cell? ⟨e, 1, none⟩ = some v) : Seg (lays w h f e) h (e :: bs) h := by
  have heh : e ≠ h := fun x => he (by simp [x])
  have hl : link w h f := by rw [hf]; exact seg_first h h bs hr
  have hfm : f ∈ bs ++ [h] := by rw [hf]; exact List.head_mem _
  have hfe : f ≠ e := by
    intro x
    rw [x] at hfm
    rcases List.mem_append.1 hfm with y | y
    · exact he (List.mem_cons_of_mem _ y)
    · simp at y; exact heh y
  have e0 : (lays w h f e).cell? ⟨e, 0, none⟩ = some (.pointer (some ⟨f, 0, none⟩)) := by
    unfold lays
    rw [cell_set_other (.inl (Ne.symm heh)), cell_set_other (.inl hfe)]
    exact cell_set_same (by rw [cell_set_other (.inr (by decide))]; exact c0)
  have e1 : (lays w h f e).cell? ⟨e, 1, none⟩ = some (.pointer (some ⟨h, 0, none⟩)) := by
    unfold lays
    rw [cell_set_other (.inl (Ne.symm heh)), cell_set_other (.inl hfe), cell_set_other (.inr (by decide))]
    exact cell_set_same c1
  have f1 : (lays w h f e).cell? ⟨f, 1, none⟩ = some (.pointer (some ⟨e, 0, none⟩)) := by
    unfold lays
    rw [cell_set_other (.inr (by decide))]
    exact cell_set_same (by rw [cell_set_other (.inl (Ne.symm hfe)), cell_set_other (.inl (Ne.symm hfe))]; exact hl.2)
  have h0 : (lays w h f e).cell? ⟨h, 0, none⟩ = some (.pointer (some ⟨e, 0, none⟩)) := by
    unfold lays
    exact cell_set_same (by rw [cell_set_other (.inr (by decide)), cell_set_other (.inl heh), cell_set_other (.inl heh)]; exact hl.1)
  have o0 : ∀ x, x ≠ h → x ≠ e → (lays w h f e).cell? ⟨x, 0, none⟩ = w.cell? ⟨x, 0, none⟩ := by
    intro x h1 h2
    unfold lays
    rw [cell_set_other (.inl (Ne.symm h1)), cell_set_other (.inr (by decide)), cell_set_other (.inl (Ne.symm h2)), cell_set_other (.inr (by decide))]
  have o1 : ∀ x, x ≠ f → x ≠ e → (lays w h f e).cell? ⟨x, 1, none⟩ = w.cell? ⟨x, 1, none⟩ := by
    intro x h1 h2
    unfold lays
    rw [cell_set_other (.inr (by decide)), cell_set_other (.inl (Ne.symm h1)), cell_set_other (.inr (by decide)), cell_set_other (.inl (Ne.symm h2))]
  cases bs with
  | nil =>
    have : f = h := by rw [hf]; rfl
    subst this
    exact ⟨⟨h0, e1⟩, e0, f1⟩
  | cons b r =>
    have : f = b := by rw [hf]; rfl
    subst this
    have hn1 := List.nodup_cons.1 hn
    have hn2 := List.nodup_cons.1 hn1.2
    refine ⟨⟨h0, e1⟩, ⟨e0, f1⟩, seg_frame r f h ?_ ?_ hr.2⟩
    · intro x hx
      exact o0 x (fun y => hn1.1 (y ▸ hx)) (fun y => he (List.mem_cons_of_mem _ (y ▸ hx)))
    · intro y hy
      refine o1 y ?_ ?_
      · intro z
        subst z
        rcases List.mem_append.1 hy with z | z
        · exact hn2.1 z
        · simp at z; exact hn1.1 (by rw [← z]; simp)
      · intro z
        subst z
        rcases List.mem_append.1 hy with z | z
        · exact he (List.mem_cons_of_mem _ (List.mem_cons_of_mem _ z))
        · simp at z; exact heh z

section
variable {K V : Type} [DecidableEq K]
variable {P : Program} {kT : TypeId} {KK : Kd K} {VK : Kd V} {w w' : World} {c b h most : Nat} {D : DataW Unit} {S : Nat → Prop} {E : List (Ent K V)}

/-- The ring's blocks. -/
def inRing (h : Nat) (E : List (Ent K V)) : Nat → Prop := fun x => x ∈ h :: E.map Ent.blk

theorem Core.notC (C : Core P kT KK VK w c b h D S most E) : ¬ inRing h E c := (List.nodup_cons.1 C.nod).1

theorem Core.notB (C : Core P kT KK VK w c b h D S most E) : ¬ inRing h E b := by
  intro x
  obtain ⟨cs, t, hx⟩ := C.live b x
  obtain ⟨es, clock, hb, _⟩ := C.own
  rw [hb] at hx
  cases hx

theorem Core.bc (C : Core P kT KK VK w c b h D S most E) : b ≠ c := by
  intro x
  obtain ⟨cs, t, hx⟩ := C.liveC
  obtain ⟨es, clock, hb, _⟩ := C.own
  rw [← x, hb] at hx
  cases hx

/-- The entries stand in another order (or fewer of them do), all else stays. -/
theorem Core.re (C : Core P kT KK VK w c b h D S most E) (T : Brushed (inRing h E) w w') {E' : List (Ent K V)} {D' : DataW Unit} {w'' : World}
    (hk : ∀ k, k ≠ b → w''.heap[k]? = w'.heap[k]?) (own : w''.ownsMap P kT ptrR b E'.length D')
    (hsub : ∀ e, e ∈ E' → e ∈ E) (has : ∀ k, Maps.has D' (KK.lit k) = decide (k ∈ E'.map Ent.key)) (at' : ∀ e ∈ E', ∀ z, D'.atKey (KK.lit e.key) z = .lit (.int .i64 e.blk)) (size : Maps.size D' = E'.length)
    (keys : (E'.map Ent.key).Nodup) (blks : (E'.map Ent.blk).Nodup) (ring : Seg w' h (E'.map Ent.blk) h) : Core P kT KK VK w'' c b h D' S most E' := by
  have hb := C.notB
  have hc := C.notC
  have hbc := C.bc
  have hsub' : ∀ x, x ∈ h :: E'.map Ent.blk → x ∈ h :: E.map Ent.blk := by
    intro x hx
    rcases List.mem_cons.1 hx with rfl | hx
    · simp
    · obtain ⟨e, he, rfl⟩ := List.mem_map.1 hx
      exact List.mem_cons_of_mem _ (List.mem_map_of_mem (hsub e he))
  have cell2 : ∀ x o, x ≠ b → w''.cell? ⟨x, o, none⟩ = w'.cell? ⟨x, o, none⟩ := fun x o hx => World.cell?_of_block (w := w') (a := ⟨x, o, none⟩) (hk x hx)
  have live2 : ∀ x, x ≠ b → Live w' x → Live w'' x := fun x hx ⟨cs, e, hl⟩ => ⟨cs, e, (hk x hx).trans hl⟩
  have nb : ∀ x, x ∈ h :: E.map Ent.blk → x ≠ b := fun x hx e => hb (e ▸ hx)
  refine ⟨?_, ?_, ?_, ?_, own, has, at', size, keys, ?_, ?_, ?_, ?_, ?_⟩
  · rw [cell2 c 0 (Ne.symm hbc), T.other hc]; exact C.most
  · rw [cell2 c 1 (Ne.symm hbc), T.other hc]; exact C.head
  · rw [cell2 c 2 (Ne.symm hbc), T.other hc]; exact C.by'
  · exact live2 c (Ne.symm hbc) (T.live c C.liveC)
  · refine seg_frame _ _ _ (fun x hx => cell2 x 0 (nb x (hsub' x hx))) (fun y hy => cell2 y 1 (nb y (hsub' y ?_))) ring
    rcases List.mem_append.1 hy with z | z
    · exact List.mem_cons_of_mem _ z
    · simp at z; simp [z]
  · have hn := List.nodup_cons.1 (List.nodup_cons.1 C.nod).2
    refine List.nodup_cons.2 ⟨fun x => hc (hsub' c x), List.nodup_cons.2 ⟨fun x => hn.1 ?_, blks⟩⟩
    obtain ⟨e, he, hx⟩ := List.mem_map.1 x
    exact List.mem_map.2 ⟨e, hsub e he, hx⟩
  · intro x hx
    exact live2 x (nb x (hsub' x hx)) (T.live x (C.live x (hsub' x hx)))
  · intro e he i u hi
    have := C.ents e (hsub e he) i u hi
    rw [cell2 e.blk _ (nb _ (hsub' _ (List.mem_cons_of_mem _ (List.mem_map_of_mem he)))), T.cell _ _ (by omega)]
    exact this
  · exact ⟨C.sub.1, C.sub.2.1, fun x hx => C.sub.2.2 x (hsub' x hx)⟩

/-- What a walk reads at an entry. -/
theorem Core.around (C : Core P kT KK VK w c b h D S most E) {p q : List (Ent K V)} {e : Ent K V} (hE : E = p ++ e :: q) :
    ∃ l n, inRing h E l ∧ inRing h E n ∧ l ≠ e.blk ∧ n ≠ e.blk ∧ link w l e.blk ∧ link w e.blk n ∧ Seg (tie w l n) h ((p ++ q).map Ent.blk) h := by
  have hb : E.map Ent.blk = p.map Ent.blk ++ e.blk :: q.map Ent.blk := by rw [hE]; simp
  have hr := C.ring
  have hn := (List.nodup_cons.1 C.nod).2
  rw [hb] at hr hn
  obtain ⟨s1, s2⟩ := (seg_app _ h e.blk h _).1 hr
  have l1 := seg_last _ h e.blk s1
  have l2 := seg_first e.blk h _ s2
  have hcut := ring_cut hr hn
  have hn1 := List.nodup_cons.1 hn
  have hn2 := List.nodup_append.1 hn1.2
  refine ⟨_, _, ?_, ?_, ?_, ?_, l1, l2, by rw [List.map_append]; exact hcut⟩
  · unfold inRing
    rw [hb]
    have := List.getLast_mem (l := h :: p.map Ent.blk) (by simp)
    rcases List.mem_cons.1 this with x | x
    · rw [x]; simp
    · exact List.mem_cons_of_mem _ (List.mem_append_left _ x)
  · unfold inRing
    rw [hb]
    have := List.head_mem (l := q.map Ent.blk ++ [h]) (by simp)
    rcases List.mem_append.1 this with x | x
    · exact List.mem_cons_of_mem _ (List.mem_append_right _ (List.mem_cons_of_mem _ x))
    · simp only [List.mem_singleton] at x; rw [x]; simp
  · have := List.getLast_mem (l := h :: p.map Ent.blk) (by simp)
    intro y
    rw [y] at this
    rcases List.mem_cons.1 this with x | x
    · exact hn1.1 (by rw [← x]; simp)
    · exact hn2.2.2 _ x _ (by simp) rfl
  · have := List.head_mem (l := q.map Ent.blk ++ [h]) (by simp)
    intro y
    rw [y] at this
    rcases List.mem_append.1 this with x | x
    · exact (List.nodup_cons.1 hn2.2.1).1 x
    · simp only [List.mem_singleton] at x; exact hn1.1 (by rw [← x]; simp)

end

end Go.Proofs.Cc
