/- Plain: the kinds of keys and values that the laws' caches hold. No program in sight. -/
import Derived.Test.YteboancapfgdeaaCcPlain
namespace Go.Proofs.Cc
open Go Go.RowKit Go.WideShapes

/-- The integers of a Go int. -/
abbrev I64 := { x : Int // (Lit.int .i64 x).wf = true }
def kdI : Kd I64 := ⟨fun x => .int .i64 x.1, fun x => [.int .i64 x.1], fun x => .int .i64 x.1⟩
theorem okI : KeyOk kdI := ⟨fun a b h => by
  have h' : Lit.int .i64 a.1 = Lit.int .i64 b.1 := h
  injection h' with _ h'
  exact Subtype.ext h', fun _ => trivial⟩
def zeroI : I64 := ⟨0, by decide⟩

end Go.Proofs.Cc
