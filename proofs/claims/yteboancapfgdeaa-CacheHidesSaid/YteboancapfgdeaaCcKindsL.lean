/- Plain: lists of two numbers, told by their block. No program in sight. -/
import Derived.Test.YteboancapfgdeaaCcKindsK
namespace Go.Proofs.Cc
open Go Go.RowKit Go.WideShapes

structure SlV where
  blk : Nat
deriving DecidableEq

def kdL : Kd SlV := ⟨fun x => .slice (some ⟨x.blk, 0, none⟩) 2 2, fun x => [.slice (some ⟨x.blk, 0, none⟩) 2 2], fun _ => .bool false⟩
end Go.Proofs.Cc
