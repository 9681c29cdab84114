/- Plain: a pair beside another one that is called. No program in sight. -/
import Derived.Test.YteboancapfgdeaaCcDoesP
namespace Go.Proofs.Cc
open Go Go.RowKit

/-- What has turned, and the colours: of the pair at i alone. -/
structure Aft (o : Nat → Nat) (i : Nat) (w : World) (o' : Nat → Nat) (w' : World) : Prop where
  same : ∀ x, x < w.heap.size → o' x = o x
  turn : Turn (fun x => i < o x ∧ o x ≤ i + 4) w w'

section
variable {K V : Type} [DecidableEq K] [DecidableEq V]
variable {KL : List K} {VL : List V} {P : Program} {kT eK eV sK sV eE : Nat} {KK : Kd K} {VK : Kd V} {zK : K} {zV : V} {o o' : Nat → Nat} {i k : Nat} {w w' : World} {c mp kp vp most : Nat} {E : List (Ent K V)} {L : List (Int × Int)}

omit [DecidableEq V] in
theorem Quad.other (Q : Quad P kT eK eV sK sV eE KK VK zK zV o i w c mp kp vp most E L KL VL) (A : Aft o k w o' w') (hd : i + 4 ≤ k ∨ k + 4 ≤ i) : Quad P kT eK eV sK sV eE KK VK zK zV o' i w' c mp kp vp most E L KL VL := by
  have hs : ∀ t, i < t → t ≤ i + 4 → Same (fun x => o x = t ∧ x < w.heap.size) w w' := fun t h1 h2 => A.turn.same (fun x hx h => by have := hx.1; omega)
  have hw : ∀ t x, (o x = t ∧ x < w.heap.size) → o' x = t := fun t x hx => (A.same x hx.2).trans hx.1
  exact ⟨((CacheAt.tight Q.cache).frame (hs _ (by omega) (by omega))).wider (hw _), ((RefAt.tight Q.ref).frame (hs _ (by omega) (by omega))).wider (hw _), ((CodesAt.tight Q.keys).frame (hs _ (by omega) (by omega))).wider (hw _), ((CodesAt.tight Q.vals).frame (hs _ (by omega) (by omega))).wider (hw _)⟩
end

theorem Aft.below {o o' : Nat → Nat} {i B : Nat} {w w' : World} (h : Aft o i w o' w') (hB : B ≤ w.heap.size) (hz : ∀ x, x < B → o x = 0) : Below B w w' :=
  h.turn.below hB (fun x hx hh => by have := hz x hx; omega)

end Go.Proofs.Cc
