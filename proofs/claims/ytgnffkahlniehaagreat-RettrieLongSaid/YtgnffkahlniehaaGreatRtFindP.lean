/- Plain: what a filter finds, edge by edge. No code walked. -/
import Derived.Test.YtgnffkahlniehaaGreatRtAll
namespace Go.Proofs.YtgnffkahlniehaaGreat
open Go Go.RowKit Go.Proofs.Gs Go.Proofs.Tri Go.Proofs.Rt Go.Proofs.Tp

def dollarB (x : ByteArray) : Bool := decide (x.data.toList.head? = some 36)

/-- What one edge gives. -/
def part (k : Tree) (f : List ByteArray) (b : Bool) : List MsgV :=
  if b && (k.lv.head?.map dollarB).getD false then [] else match left hashB plusB f k.lv with
      | some g => fnd hashB plusB dollarB k g false
      | none => []

theorem fndL_cons (k : Tree) (ks : List Tree) (f : List ByteArray) (b : Bool) : fndL hashB plusB dollarB (k :: ks) f b = part k f b ++ fndL hashB plusB dollarB ks f b := by
  rw [fndL]
  congr 1
  unfold part
  split
  · rfl
  · cases left hashB plusB f k.lv <;> rfl

theorem fndL_app (a c : List Tree) (f : List ByteArray) (b : Bool) : fndL hashB plusB dollarB (a ++ c) f b = fndL hashB plusB dollarB a f b ++ fndL hashB plusB dollarB c f b := by
  induction a with
  | nil => simp [fndL]
  | cons k ks ih => rw [List.cons_append, fndL_cons, fndL_cons, ih, List.append_assoc]

theorem fndL_next {ks : List Tree} {j : Nat} {k : Tree} (h : ks[j]? = some k) (f : List ByteArray) (b : Bool) : (fndL hashB plusB dollarB (ks.take (j + 1)) f b).length = (fndL hashB plusB dollarB (ks.take j) f b).length + (part k f b).length := by
  rw [List.take_add_one, h, fndL_app, List.length_append]
  congr 1
  simp [fndL_cons, fndL]

theorem fndL_part {ks : List Tree} {j : Nat} {k : Tree} (h : ks[j]? = some k) {f : List ByteArray} {b : Bool} {i : Nat} {a : MsgV} (ha : (part k f b)[i]? = some a) : (fndL hashB plusB dollarB ks f b)[(fndL hashB plusB dollarB (ks.take j) f b).length + i]? = some a := by
  obtain ⟨hj, hg⟩ := List.getElem?_eq_some_iff.1 h
  have hs : ks = ks.take j ++ k :: ks.drop (j + 1) := by
    conv => lhs; rw [← List.take_append_drop j ks, List.drop_eq_getElem_cons hj, hg]
  have e : fndL hashB plusB dollarB ks f b = fndL hashB plusB dollarB (ks.take j) f b ++ (part k f b ++ fndL hashB plusB dollarB (ks.drop (j + 1)) f b) := by
    conv => lhs; rw [hs, fndL_app, fndL_cons]
  rw [e, List.getElem?_append_right (by omega), Nat.add_sub_cancel_left, List.getElem?_append_left (List.getElem?_eq_some_iff.1 ha).1]
  exact ha

theorem fnd_nil (lv : List ByteArray) (v : Option MsgV) (ks : List Tree) (b : Bool) : fnd hashB plusB dollarB (Tr.node lv v ks) [] b = vals (ownE v : List (List ByteArray × MsgV)) := by rw [fnd]
theorem fnd_hash (lv : List ByteArray) (v : Option MsgV) (ks : List Tree) {x : ByteArray} (xs : List ByteArray) (hx : hashB x = true) : fnd hashB plusB dollarB (Tr.node lv v ks) (x :: xs) false = vals (body (Tr.node lv v ks)) := by rw [fnd, hx]; rfl
theorem fnd_else (lv : List ByteArray) (v : Option MsgV) (ks : List Tree) {x : ByteArray} (xs : List ByteArray) {b : Bool} (h : (hashB x && !b) = false) : fnd hashB plusB dollarB (Tr.node lv v ks) (x :: xs) b = fndL hashB plusB dollarB ks (x :: xs) b := by rw [fnd, h]; rfl

def intOf : Value → Int | .int _ q => q | _ => 0
end Go.Proofs.YtgnffkahlniehaaGreat
