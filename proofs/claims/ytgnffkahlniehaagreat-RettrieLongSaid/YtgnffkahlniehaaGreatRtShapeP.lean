/- Plain: a shape in memory. No code walked. -/
import Derived.Test.YtgnffkahlniehaaGreatRtPut
namespace Go.Proofs.Rt
open Go Go.RowKit Go.Proofs.Gs Go.Proofs.Tri

/-- A shape, as it is told. -/
inductive Sh where
  | node (lv : List ByteArray) (here : Bool) (ents : List (ByteArray × Int)) (kids : List Sh)

namespace Sh
def here : Sh → Bool | node _ h _ _ => h
def kids : Sh → List Sh | node _ _ _ k => k
def lv : Sh → List ByteArray | node l _ _ _ => l
def ents : Sh → List (ByteArray × Int) | node _ _ e _ => e
theorem ind {P : Sh → Prop} (h : ∀ lv b es ks, (∀ k ∈ ks, P k) → P (.node lv b es ks)) : ∀ s, P s
  | .node lv b es ks => h lv b es ks (fun k _ => Sh.ind h k)
end Sh

mutual
def shOf : Tree → Sh
  | .node lv v ks => .node lv v.isSome [] (shOfL ks)
def shOfL : List Tree → List Sh
  | [] => []
  | k :: ks => shOf k :: shOfL ks
end
theorem shOfL_map : ∀ ks : List Tree, shOfL ks = ks.map shOf
  | [] => rfl
  | k :: ks => by rw [shOfL, List.map_cons, shOfL_map ks]
theorem shOf_node (lv : List ByteArray) (v : Option MsgV) (ks : List Tree) : shOf (.node lv v ks) = .node lv v.isSome [] (ks.map shOf) := by rw [shOf, shOfL_map]
theorem shOf_here (t : Tree) : (shOf t).here = t.val.isSome := by cases t; rw [shOf_node]; rfl

/-- No entries anywhere. -/
inductive Bare : Sh → Prop
  | mk (lv : List ByteArray) (b : Bool) (ks : List Sh) (h : ∀ k ∈ ks, Bare k) : Bare (.node lv b [] ks)
theorem bare_of : ∀ t : Tree, Bare (shOf t) := by
  refine Tr.ind (fun lv v ks ih => ?_)
  rw [shOf_node]
  refine .mk _ _ _ (fun k hk => ?_)
  obtain ⟨t, ht, rfl⟩ := List.mem_map.1 hk
  exact ih t ht

/-- How many nodes. -/
inductive Small (n : Nat) : Sh → Prop
  | mk (lv : List ByteArray) (b : Bool) (es : List (ByteArray × Int)) (ks : List Sh) (h1 : lv.length ≤ n) (h2 : ks.length ≤ n) (h : ∀ k ∈ ks, Small n k) : Small n (.node lv b es ks)

def entCells (es : List (ByteArray × Int)) : List Value := es.flatMap fun e => [.string e.1, .int .i64 e.2]
theorem entCells_length (es : List (ByteArray × Int)) : (entCells es).length = es.length * 2 := by
  induction es with
  | nil => rfl
  | cons e es ih => unfold entCells at ih ⊢; rw [List.flatMap_cons, List.length_append, ih]; simp; omega
def EntsF (F : Nat → Prop) (w : World) (v : Value) (es : List (ByteArray × Int)) : Prop := RowF F w 2 v es.length (entCells es)

/-- A shape's three slices. -/
abbrev Sl3 := Value × Value × Value
def shCell (r : Sl3) (k : Sh) : List Value := [r.1, .bool k.here, r.2.1, r.2.2]
def shCells : List Sl3 → List Sh → List Value
  | r :: rs, k :: ks => shCell r k ++ shCells rs ks
  | _, _ => []

inductive ShAt (F : Nat → Prop) (w : World) : Sl3 → Sh → Prop
  | mk (lv : List ByteArray) (b : Bool) (es : List (ByteArray × Int)) (ks : List Sh) (sv ev kv : Value) (rs : List Sl3) (hs : StrsF F w sv lv) (he : EntsF F w ev es) (hl : rs.length = ks.length)
      (hk : RowF F w 4 kv rs.length (shCells rs ks)) (hn : ∀ (i : Nat) (r : Sl3) (k : Sh), rs[i]? = some r → ks[i]? = some k → ShAt F w r k) : ShAt F w (sv, ev, kv) (.node lv b es ks)

theorem shCells_length : ∀ {rs : List Sl3} {ks : List Sh}, rs.length = ks.length → (shCells rs ks).length = ks.length * 4
  | [], ks, h => by cases ks <;> simp [shCells] at h ⊢
  | r :: rs, [], h => by simp at h
  | r :: rs, k :: ks, h => by
    simp only [shCells, shCell, List.length_append, List.length_cons, List.length_nil]
    rw [shCells_length (by simpa using h)]
    omega
theorem shCells_app : ∀ {rs : List Sl3} {ks : List Sh} {r : Sl3} {k : Sh}, rs.length = ks.length → shCells (rs ++ [r]) (ks ++ [k]) = shCells rs ks ++ shCell r k
  | [], [], r, k, _ => by simp [shCells]
  | [], _ :: _, r, k, h => by simp at h
  | _ :: _, [], r, k, h => by simp at h
  | r' :: rs, k' :: ks, r, k, h => by
    simp only [List.cons_append, shCells]
    rw [shCells_app (by simpa using h), List.append_assoc]
theorem shCells_get : ∀ {rs : List Sl3} {ks : List Sh} {i o : Nat} {r : Sl3} {k : Sh} {u : Value}, rs[i]? = some r → ks[i]? = some k → (shCell r k)[o]? = some u → (shCells rs ks)[i * 4 + o]? = some u
  | [], ks, i, o, r, k, u, h, _, _ => by simp at h
  | r' :: rs, [], i, o, r, k, u, _, h, _ => by simp at h
  | r' :: rs, k' :: ks, 0, o, r, k, u, h1, h2, h3 => by
    simp at h1 h2
    subst h1; subst h2
    have ho : o < (shCell r' k').length := (List.getElem?_eq_some_iff.1 h3).1
    rw [Nat.zero_mul, Nat.zero_add, shCells, List.getElem?_append_left ho]
    exact h3
  | r' :: rs, k' :: ks, i + 1, o, r, k, u, h1, h2, h3 => by
    have e : (i + 1) * 4 + o = (shCell r' k').length + (i * 4 + o) := by simp [shCell]; omega
    rw [e, shCells, List.getElem?_append_right (by omega), Nat.add_sub_cancel_left]
    exact shCells_get (by simpa using h1) (by simpa using h2) h3

section
variable {F F' : Nat → Prop} {w w' : World}
theorem ShAt.keep (hb : Same F w w') : ∀ {s : Sh} {r : Sl3}, ShAt F w r s → ShAt F w' r s := by
  intro s
  refine Sh.ind (P := fun s => ∀ {r : Sl3}, ShAt F w r s → ShAt F w' r s) (fun lv b es ks ih r h => ?_) s
  cases h with
  | mk _ _ _ _ sv ev kv rs hs he hl hk hn =>
    exact .mk lv b es ks sv ev kv rs (RowF.keep hs hb) (RowF.keep he hb) hl (hk.keep hb) (fun i r k h1 h2 => ih k (List.mem_of_getElem? h2) (hn i r k h1 h2))
theorem ShAt.mono (hF : ∀ b, F b → F' b) : ∀ {s : Sh} {r : Sl3}, ShAt F w r s → ShAt F' w r s := by
  intro s
  refine Sh.ind (P := fun s => ∀ {r : Sl3}, ShAt F w r s → ShAt F' w r s) (fun lv b es ks ih r h => ?_) s
  cases h with
  | mk _ _ _ _ sv ev kv rs hs he hl hk hn =>
    exact .mk lv b es ks sv ev kv rs (RowF.mono hs hF) (RowF.mono he hF) hl (hk.mono hF) (fun i r k h1 h2 => ih k (List.mem_of_getElem? h2) (hn i r k h1 h2))
theorem ShAt.slices {s : Sh} {r : Sl3} (h : ShAt F w r s) : ∃ a1 n1 c1 a2 n2 c2 a3 n3 c3, r = (.slice a1 n1 c1, .slice a2 n2 c2, .slice a3 n3 c3) := by
  cases h with
  | mk _ _ _ _ sv ev kv rs hs he hl hk hn =>
    obtain ⟨⟨_, a1, c1, e1, _⟩, _⟩ := hs
    obtain ⟨⟨_, a2, c2, e2, _⟩, _⟩ := he
    obtain ⟨⟨_, a3, c3, e3, _⟩, _⟩ := hk
    exact ⟨a1, _, c1, a2, _, c2, a3, _, c3, by rw [e1, e2, e3]⟩
end
end Go.Proofs.Rt
