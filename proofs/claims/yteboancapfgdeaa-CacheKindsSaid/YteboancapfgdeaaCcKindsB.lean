/- Plain: further kinds of keys and values. No program in sight. -/
import Derived.Test.YteboancapfgdeaaCcKinds
import Derived.Lib.Strings
namespace Go.Proofs.Cc
open Go Go.RowKit Go.WideShapes

/-- Texts. -/
def Str : Type := { s : ByteArray // s.size ≤ maxLen }
theorem Str.ext {a b : Str} (h : a.1.data.toList = b.1.data.toList) : a = b := by
  obtain ⟨⟨x⟩, ha⟩ := a
  obtain ⟨⟨y⟩, hb⟩ := b
  have : x = y := Array.toList_inj.1 h
  subst this
  rfl
instance : DecidableEq Str := fun a b => if h : a.1.data.toList = b.1.data.toList then isTrue (Str.ext h) else isFalse (fun e => h (by rw [e]))
def kdS : Kd Str := ⟨fun x => .string x.1, fun x => [.string x.1], fun x => .string x.1.data.toList⟩
theorem okS : KeyOk kdS := ⟨fun a b h => by
  have h' : Lit.string a.1.data.toList = Lit.string b.1.data.toList := h
  injection h' with h'
  exact Str.ext h', fun _ => trivial⟩
def zeroS : Str := ⟨ByteArray.empty, Nat.zero_le _⟩
theorem keyS {P : Program} {k : TypeId} (hk : P.underlying k = some .string) (x : Str) : keyOf P k (.string x.1) = some (kdS.lit x) := by
  have h := x.2
  simp [keyOf, hk, mapKey, kdS, h]

/-- Truth values. -/
def kdB : Kd Bool := ⟨fun x => .bool x, fun x => [.bool x], fun x => .bool x⟩
theorem okB : KeyOk kdB := ⟨fun a b h => by
  have h' : Lit.bool a = Lit.bool b := h
  injection h', fun _ => trivial⟩

/-- Bytes. -/
abbrev U8 := { x : Int // (Lit.int .u8 x).wf = true }
def kdU : Kd U8 := ⟨fun x => .int .u8 x.1, fun x => [.int .u8 x.1], fun x => .int .u8 x.1⟩
def zeroU : U8 := ⟨0, by decide⟩

end Go.Proofs.Cc
