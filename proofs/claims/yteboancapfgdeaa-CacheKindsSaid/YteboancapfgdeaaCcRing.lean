/- Plain: a ring of entries in memory; what a cut and a laying do to it. No program in sight. -/
import Derived.WalkKit
import Derived.ProofKit
import Derived.Below
namespace Go.Proofs.Cc
open Go Go.RowKit

/-- Block b is a row of cells, none of them frozen. -/
def Live (w : World) (b : Nat) : Prop := ∃ cs e, w.heap[b]? = some (.cells cs e (0, 0))

/-- a's next is b, b's last is a. -/
def link (w : World) (a b : Nat) : Prop := w.cell? ⟨a, 0, none⟩ = some (.pointer (some ⟨b, 0, none⟩)) ∧ w.cell? ⟨b, 1, none⟩ = some (.pointer (some ⟨a, 0, none⟩))

def Seg (w : World) : Nat → List Nat → Nat → Prop
  | a, [], z => link w a z
  | a, b :: r, z => link w a b ∧ Seg w b r z

theorem Live.frozen {w : World} {b : Nat} (h : Live w b) (o : Nat) (s : Option _) : w.frozen? ⟨b, o, s⟩ = false := by
  obtain ⟨cs, e, h⟩ := h
  simp [World.frozen?, h]

theorem Live.setCell {w : World} {b : Nat} (h : Live w b) (a : Addr) (v : Value) : Live (w.setCell a v) b := by
  obtain ⟨cs, e, h⟩ := h
  by_cases hb : a.block = b
  · refine ⟨if a.spot.isSome then cs else cs.setIfInBounds a.off v, e, ?_⟩
    simp only [World.setCell, Array.getElem?_modify, hb, ↓reduceIte, h, Option.map_some]
  · refine ⟨cs, e, ?_⟩
    simp only [World.setCell, Array.getElem?_modify]
    rw [if_neg hb, h]

/-- Setting a's next to b and b's last to a, where both cells are there. -/
def tie (w : World) (a b : Nat) : World := (w.setCell ⟨b, 1, none⟩ (.pointer (some ⟨a, 0, none⟩))).setCell ⟨a, 0, none⟩ (.pointer (some ⟨b, 0, none⟩))

theorem cell_set_other {w : World} {a b o p : Nat} {v : Value} (h : a ≠ b ∨ o ≠ p) : (w.setCell ⟨a, o, none⟩ v).cell? ⟨b, p, none⟩ = w.cell? ⟨b, p, none⟩ := by
  refine World.cell?_setCell_other _ _ _ _ ?_
  intro e
  injection e with e1 e2
  rcases h with h | h
  · exact h e1
  · exact h e2

theorem cell_set_same {w : World} {a o : Nat} {v u : Value} (h : w.cell? ⟨a, o, none⟩ = some u) : (w.setCell ⟨a, o, none⟩ v).cell? ⟨a, o, none⟩ = some v :=
  World.cell?_setCell_same _ _ _ h

theorem tie_link {w : World} {a b : Nat} {u v : Value} (h1 : w.cell? ⟨a, 0, none⟩ = some u) (h2 : w.cell? ⟨b, 1, none⟩ = some v) : link (tie w a b) a b := by
  unfold tie
  refine ⟨cell_set_same (by rw [cell_set_other (.inr (by decide))]; exact h1), ?_⟩
  rw [cell_set_other (.inr (by decide))]
  exact cell_set_same h2

theorem tie_other {w : World} {a b c p : Nat} (h : (c ≠ a ∨ p ≠ 0) ∧ (c ≠ b ∨ p ≠ 1)) : (tie w a b).cell? ⟨c, p, none⟩ = w.cell? ⟨c, p, none⟩ := by
  unfold tie
  rw [cell_set_other (by rcases h.1 with h | h; exact .inl (Ne.symm h); exact .inr (Ne.symm h)), cell_set_other (by rcases h.2 with h | h; exact .inl (Ne.symm h); exact .inr (Ne.symm h))]

theorem tie_link_other {w : World} {a b c d : Nat} (h : link w c d) (h1 : c ≠ a) (h2 : d ≠ b) : link (tie w a b) c d :=
  ⟨by rw [tie_other ⟨.inl h1, .inr (by decide)⟩]; exact h.1, by rw [tie_other ⟨.inr (by decide), .inl h2⟩]; exact h.2⟩

/-- A part of the ring in which a is no beginning and b no end. -/
theorem tie_seg {w : World} {a b : Nat} : ∀ (r : List Nat) (c z : Nat), Seg w c r z → a ∉ c :: r → b ∉ r ++ [z] → Seg (tie w a b) c r z
  | [], c, z, h, h1, h2 => tie_link_other h (fun e => h1 (by simp [e])) (fun e => h2 (by simp [e]))
  | d :: r, c, z, h, h1, h2 => ⟨tie_link_other h.1 (fun e => h1 (by simp [e])) (fun e => h2 (by simp [e])), tie_seg r d z h.2 (fun e => h1 (List.mem_cons_of_mem _ e)) (fun e => h2 (List.mem_cons_of_mem _ e))⟩

theorem seg_app {w : World} : ∀ (p : List Nat) (a e z : Nat) (q : List Nat), Seg w a (p ++ e :: q) z ↔ Seg w a p e ∧ Seg w e q z
  | [], a, e, z, q => Iff.rfl
  | b :: p, a, e, z, q => by
    show (link w a b ∧ Seg w b (p ++ e :: q) z) ↔ (link w a b ∧ Seg w b p e) ∧ Seg w e q z
    rw [seg_app p b e z q, and_assoc]

/-- The last of a part, told: its links but the last, and the last. -/
theorem seg_last {w : World} : ∀ (p : List Nat) (a e : Nat), Seg w a p e → link w ((a :: p).getLast (by simp)) e
  | [], a, e, h => h
  | b :: p, a, e, h => by
    rw [List.getLast_cons (by simp)]
    exact seg_last p b e h.2

theorem seg_first {w : World} (a z : Nat) (q : List Nat) (h : Seg w a q z) : link w a ((q ++ [z]).head (by simp)) := by
  cases q with
  | nil => exact h
  | cons b q => exact h.1

/-- The last link of a part is another one: the part but for its last link stays. -/
theorem seg_turn {w : World} {a' b' : Nat} : ∀ (p : List Nat) (c e : Nat), Seg w c p e → (c :: p).getLast (by simp) = a' → (c :: p).Nodup → b' ∉ p → link (tie w a' b') a' b' → Seg (tie w a' b') c p b'
  | [], c, e, _, hl, _, _, ht => by
    simp at hl; subst hl; exact ht
  | d :: p, c, e, h, hl, hn, hb, ht => by
    rw [List.getLast_cons (by simp)] at hl
    obtain ⟨n1, n2⟩ := List.nodup_cons.1 hn
    refine ⟨tie_link_other h.1 ?_ (fun e => hb (by simp [e])), seg_turn p d e h.2 hl n2 (fun e => hb (List.mem_cons_of_mem _ e)) ht⟩
    intro e'
    exact n1 (by rw [e', ← hl]; exact List.getLast_mem _)

/-- An entry is cut out. -/
theorem ring_cut {w : World} {h e : Nat} {p q : List Nat} (hr : Seg w h (p ++ e :: q) h) (hn : (h :: (p ++ e :: q)).Nodup) :
    Seg (tie w ((h :: p).getLast (by simp)) ((q ++ [h]).head (by simp))) h (p ++ q) h := by
  obtain ⟨s1, s2⟩ := (seg_app p h e h q).1 hr
  have l1 := seg_last p h e s1
  have l2 := seg_first e h q s2
  generalize ha : (h :: p).getLast (by simp) = a at l1
  generalize hb : (q ++ [h]).head (by simp) = b at l2
  have ht := tie_link l1.1 l2.2
  have hn1 := List.nodup_cons.1 hn
  have hn2 := List.nodup_append.1 hn1.2
  have hnp : (h :: p).Nodup := List.nodup_cons.2 ⟨fun x => hn1.1 (by simp [x]), hn2.1⟩
  have hin : a ∈ h :: p := by rw [← ha]; exact List.getLast_mem _
  cases q with
  | nil =>
    rw [List.append_nil]
    have hbh : b = h := by rw [← hb]; rfl
    subst hbh
    exact seg_turn p b e s1 ha hnp (fun x => hn1.1 (by simp [x])) ht
  | cons c q =>
    have hbc : b = c := by rw [← hb]; rfl
    subst hbc
    refine (seg_app p h b h q).2 ⟨?_, ?_⟩
    · exact seg_turn p h e s1 ha hnp (fun x => (hn2.2.2 b x b (by simp)) rfl) ht
    · have hq : b ∉ q ∧ q.Nodup := by
        have := (List.nodup_cons.1 hn2.2.1).2
        exact List.nodup_cons.1 this
      refine tie_seg q b h s2.2 ?_ ?_
      · intro x
        rcases List.mem_cons.1 hin with rfl | hin
        · exact hn1.1 (List.mem_append_right _ (List.mem_cons_of_mem _ x))
        · exact hn2.2.2 a hin a (List.mem_cons_of_mem _ x) rfl
      · intro x
        rcases List.mem_append.1 x with x | x
        · exact hq.1 x
        · simp at x; exact hn1.1 (by rw [← x]; simp)

end Go.Proofs.Cc
