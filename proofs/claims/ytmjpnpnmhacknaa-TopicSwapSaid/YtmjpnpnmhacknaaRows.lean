/-
  No cell of these rows narrows 'for every input' (looked for: loops, veiled, ifaces, maps, wideKeys, modest, calm, conditions, laid).
  DERIVED. THE GIVEN ROWS OF THIS SEAT. 5 by the template 'for every input the law returns true; each argument reads behind the call as it read before'; 0 by the template 'total and deterministic' (their statements: YtmjpnpnmhacknaaTotals.lean).
  GIVEN WITH THE SEED: the statements are not yours to turn. If you find one false, say at which input.
  Laid BY PROGRAM, IN A SANDBOX (cutbox-rows.mjs): the forced cells as the released guide's own fill.sh prints them over the translation b14dd00cb9240aec… (all of the seat's roots in one cut). By AI agents, Wed Nov 11 2026. No macro, syntax, notation, axiom, sorry.
-/
import Derived.Test.YtmjpnpnmhacknaaChecked
import GoSem.Claim
import GoSem.ClaimJoined
import GoSem.ClaimMapViews
import Derived.JoinedTies
import Derived.KernelRfl
namespace Go.Proofs.Ytmjpnpnmhacknaa
/- THE CELL 'sum', in the pinned program and in every row, IS THE sha256 OF THE DUMP (.gsa) THAT YtmjpnpnmhacknaaProg.lean LOADS. Nothing in Lean hashes anything: it is a label: what it is worth is what the hold of that sum in a sandbox is worth. -/
noncomputable def Try.pinned : Pinned := { name := "ytmjpnpnmhacknaa", sum := "b14dd00cb9240aec36500506428ff88220b9c252ddc56898d0a8eb0f71446684", checked := Try.checked }
namespace Rows
def none {H : Type} : Left H := { results := [], args := [] }

/-- 'crierlaw5.TopicTwo': WHATEVER THE INPUT: true; the input reads as it did. -/
def topicTwoSpec : ChangeSpec := { name := "topicTwo", fn := fun _ => fun
  | [d1, d2] => { results := [.lit (.bool true)], args := [d1, d2] }
  | _ => none }
def topicTwoRow : OpenClaim := { program := "ytmjpnpnmhacknaa", sum := "b14dd00cb9240aec36500506428ff88220b9c252ddc56898d0a8eb0f71446684", func := "crier/crierlaw5.TopicTwo", spec := "topicTwo", inPlace := ["internal/bytealg.IndexByteString", "internal/bytealg.IndexString", "internal/abi.NoEscape", "internal/bytealg.MakeNoZero"], recurses := true, named := ["internal/bytealg.MaxLen"], apart := false }
def TopicTwoSaid : Prop := topicTwoRow.holds Try.pinned (OpenSpec.ofChange topicTwoSpec)

/-- ITS FALSE NEIGHBOUR: 'it returns false'. Refute it at one input. -/
def topicTwoWrong : ChangeSpec := { name := "topicTwo", fn := fun _ => fun
  | [d1, d2] => { results := [.lit (.bool false)], args := [d1, d2] }
  | _ => none }
def TopicTwoWrongFalsely : Prop := topicTwoRow.holds Try.pinned (OpenSpec.ofChange topicTwoWrong)

/-- 'crierlaw5.TopicOrder': WHATEVER THE INPUT: true; the input reads as it did. -/
def topicOrderSpec : ChangeSpec := { name := "topicOrder", fn := fun _ => fun
  | [d1, d2, d3] => { results := [.lit (.bool true)], args := [d1, d2, d3] }
  | _ => none }
def topicOrderRow : OpenClaim := { program := "ytmjpnpnmhacknaa", sum := "b14dd00cb9240aec36500506428ff88220b9c252ddc56898d0a8eb0f71446684", func := "crier/crierlaw5.TopicOrder", spec := "topicOrder", inPlace := ["internal/bytealg.IndexByteString", "internal/bytealg.IndexString", "internal/abi.NoEscape", "internal/bytealg.MakeNoZero"], recurses := true, named := ["internal/bytealg.MaxLen"], apart := false }
def TopicOrderSaid : Prop := topicOrderRow.holds Try.pinned (OpenSpec.ofChange topicOrderSpec)

/-- ITS FALSE NEIGHBOUR: 'it returns false'. Refute it at one input. -/
def topicOrderWrong : ChangeSpec := { name := "topicOrder", fn := fun _ => fun
  | [d1, d2, d3] => { results := [.lit (.bool false)], args := [d1, d2, d3] }
  | _ => none }
def TopicOrderWrongFalsely : Prop := topicOrderRow.holds Try.pinned (OpenSpec.ofChange topicOrderWrong)

/-- 'crierlaw5.TopicPlain': WHATEVER THE INPUT: true; the input reads as it did. -/
def topicPlainSpec : ChangeSpec := { name := "topicPlain", fn := fun _ => fun
  | [d1, d2, d3, d4] => { results := [.lit (.bool true)], args := [d1, d2, d3, d4] }
  | _ => none }
def topicPlainRow : OpenClaim := { program := "ytmjpnpnmhacknaa", sum := "b14dd00cb9240aec36500506428ff88220b9c252ddc56898d0a8eb0f71446684", func := "crier/crierlaw5.TopicPlain", spec := "topicPlain", inPlace := ["internal/bytealg.IndexByteString", "internal/bytealg.IndexString", "internal/abi.NoEscape", "internal/bytealg.MakeNoZero"], recurses := true, named := ["internal/bytealg.MaxLen"], apart := false }
def TopicPlainSaid : Prop := topicPlainRow.holds Try.pinned (OpenSpec.ofChange topicPlainSpec)

/-- ITS FALSE NEIGHBOUR: 'it returns false'. Refute it at one input. -/
def topicPlainWrong : ChangeSpec := { name := "topicPlain", fn := fun _ => fun
  | [d1, d2, d3, d4] => { results := [.lit (.bool false)], args := [d1, d2, d3, d4] }
  | _ => none }
def TopicPlainWrongFalsely : Prop := topicPlainRow.holds Try.pinned (OpenSpec.ofChange topicPlainWrong)

/-- 'crierlaw5.TopicSwap': WHATEVER THE INPUT: true; the input reads as it did. -/
def topicSwapSpec : ChangeSpec := { name := "topicSwap", fn := fun _ => fun
  | [d1, d2, d3, d4] => { results := [.lit (.bool true)], args := [d1, d2, d3, d4] }
  | _ => none }
def topicSwapRow : OpenClaim := { program := "ytmjpnpnmhacknaa", sum := "b14dd00cb9240aec36500506428ff88220b9c252ddc56898d0a8eb0f71446684", func := "crier/crierlaw5.TopicSwap", spec := "topicSwap", inPlace := ["internal/bytealg.IndexByteString", "internal/bytealg.IndexString", "internal/abi.NoEscape", "internal/bytealg.MakeNoZero"], recurses := true, named := ["internal/bytealg.MaxLen"], apart := false }
def TopicSwapSaid : Prop := topicSwapRow.holds Try.pinned (OpenSpec.ofChange topicSwapSpec)

/-- ITS FALSE NEIGHBOUR: 'it returns false'. Refute it at one input. -/
def topicSwapWrong : ChangeSpec := { name := "topicSwap", fn := fun _ => fun
  | [d1, d2, d3, d4] => { results := [.lit (.bool false)], args := [d1, d2, d3, d4] }
  | _ => none }
def TopicSwapWrongFalsely : Prop := topicSwapRow.holds Try.pinned (OpenSpec.ofChange topicSwapWrong)

/-- 'crierlaw5.TopicShared': WHATEVER THE INPUT: true; the input reads as it did. -/
def topicSharedSpec : ChangeSpec := { name := "topicShared", fn := fun _ => fun
  | [d1, d2, d3] => { results := [.lit (.bool true)], args := [d1, d2, d3] }
  | _ => none }
def topicSharedRow : OpenClaim := { program := "ytmjpnpnmhacknaa", sum := "b14dd00cb9240aec36500506428ff88220b9c252ddc56898d0a8eb0f71446684", func := "crier/crierlaw5.TopicShared", spec := "topicShared", inPlace := ["internal/bytealg.IndexByteString", "internal/bytealg.IndexString", "internal/abi.NoEscape", "internal/bytealg.MakeNoZero"], recurses := true, named := ["internal/bytealg.MaxLen"], apart := false }
def TopicSharedSaid : Prop := topicSharedRow.holds Try.pinned (OpenSpec.ofChange topicSharedSpec)

/-- ITS FALSE NEIGHBOUR: 'it returns false'. Refute it at one input. -/
def topicSharedWrong : ChangeSpec := { name := "topicShared", fn := fun _ => fun
  | [d1, d2, d3] => { results := [.lit (.bool false)], args := [d1, d2, d3] }
  | _ => none }
def TopicSharedWrongFalsely : Prop := topicSharedRow.holds Try.pinned (OpenSpec.ofChange topicSharedWrong)

/- THE SECOND FORM. 'bulk': how many values and letters a reading holds, each counted each time it is reached (what is shared counts as often as it is met; a slice's spare places count too). A statement '..UptoSaid' is the law's where the arguments, and the package variables that the reading takes, are together of bulk at most 1048576: NARROWER than '..Said'. Prove '..Said' where nothing that the law and all that it calls make is longer than what came in: it says more and counts as full. Else prove '..UptoSaid'. A law counts once. -/
mutual
def uptoBulk {H : Type} : DataW H → Nat
  | .lit (.string bytes) => bytes.length + 1
  | .lit _ => 1
  | .nil => 1
  | .ptr d => uptoBulk d + 1
  | .slice elems spare => uptoBulkAll elems + uptoBulkAll spare + 1
  | .agg parts => uptoBulkAll parts + 1
  | .iface _ d => uptoBulk d + 1
  | .map entries => uptoBulkEntries entries + 1
  | .held _ => 1
def uptoBulkAll {H : Type} : List (DataW H) → Nat
  | [] => 0
  | d :: r => uptoBulk d + uptoBulkAll r
def uptoBulkEntries {H : Type} : List (Lit × DataW H) → Nat
  | [] => 0
  | x :: r => uptoBulkEntry x + uptoBulkEntries r
def uptoBulkEntry {H : Type} : Lit × DataW H → Nat
  | (.string bytes, d) => bytes.length + uptoBulk d + 1
  | (_, d) => uptoBulk d + 1
 end
def uptoSmall : (H : Type) → List (DataW H) → Bool := fun _ ds => decide (uptoBulkAll ds ≤ 1048576)
def OpenSpec.upto (s : _root_.Go.ChangeSpec) : _root_.Go.OpenSpec := { _root_.Go.OpenSpec.ofChange s with cond := some uptoSmall }

/-- 'crierlaw5.TopicTwo', WHERE WHAT IT READS IS OF BULK AT MOST 1048576: true; the input reads as it did. -/
def topicTwoUptoRow : OpenClaim := { program := "ytmjpnpnmhacknaa", sum := "b14dd00cb9240aec36500506428ff88220b9c252ddc56898d0a8eb0f71446684", func := "crier/crierlaw5.TopicTwo", spec := "topicTwo", inPlace := ["internal/bytealg.IndexByteString", "internal/bytealg.IndexString", "internal/abi.NoEscape", "internal/bytealg.MakeNoZero"], recurses := true, named := ["internal/bytealg.MaxLen"], apart := false, narrowed := true }
def TopicTwoUptoSaid : Prop := topicTwoUptoRow.holds Try.pinned (OpenSpec.upto topicTwoSpec)

/-- 'crierlaw5.TopicOrder', WHERE WHAT IT READS IS OF BULK AT MOST 1048576: true; the input reads as it did. -/
def topicOrderUptoRow : OpenClaim := { program := "ytmjpnpnmhacknaa", sum := "b14dd00cb9240aec36500506428ff88220b9c252ddc56898d0a8eb0f71446684", func := "crier/crierlaw5.TopicOrder", spec := "topicOrder", inPlace := ["internal/bytealg.IndexByteString", "internal/bytealg.IndexString", "internal/abi.NoEscape", "internal/bytealg.MakeNoZero"], recurses := true, named := ["internal/bytealg.MaxLen"], apart := false, narrowed := true }
def TopicOrderUptoSaid : Prop := topicOrderUptoRow.holds Try.pinned (OpenSpec.upto topicOrderSpec)

/-- 'crierlaw5.TopicPlain', WHERE WHAT IT READS IS OF BULK AT MOST 1048576: true; the input reads as it did. -/
def topicPlainUptoRow : OpenClaim := { program := "ytmjpnpnmhacknaa", sum := "b14dd00cb9240aec36500506428ff88220b9c252ddc56898d0a8eb0f71446684", func := "crier/crierlaw5.TopicPlain", spec := "topicPlain", inPlace := ["internal/bytealg.IndexByteString", "internal/bytealg.IndexString", "internal/abi.NoEscape", "internal/bytealg.MakeNoZero"], recurses := true, named := ["internal/bytealg.MaxLen"], apart := false, narrowed := true }
def TopicPlainUptoSaid : Prop := topicPlainUptoRow.holds Try.pinned (OpenSpec.upto topicPlainSpec)

/-- 'crierlaw5.TopicSwap', WHERE WHAT IT READS IS OF BULK AT MOST 1048576: true; the input reads as it did. -/
def topicSwapUptoRow : OpenClaim := { program := "ytmjpnpnmhacknaa", sum := "b14dd00cb9240aec36500506428ff88220b9c252ddc56898d0a8eb0f71446684", func := "crier/crierlaw5.TopicSwap", spec := "topicSwap", inPlace := ["internal/bytealg.IndexByteString", "internal/bytealg.IndexString", "internal/abi.NoEscape", "internal/bytealg.MakeNoZero"], recurses := true, named := ["internal/bytealg.MaxLen"], apart := false, narrowed := true }
def TopicSwapUptoSaid : Prop := topicSwapUptoRow.holds Try.pinned (OpenSpec.upto topicSwapSpec)

/-- 'crierlaw5.TopicShared', WHERE WHAT IT READS IS OF BULK AT MOST 1048576: true; the input reads as it did. -/
def topicSharedUptoRow : OpenClaim := { program := "ytmjpnpnmhacknaa", sum := "b14dd00cb9240aec36500506428ff88220b9c252ddc56898d0a8eb0f71446684", func := "crier/crierlaw5.TopicShared", spec := "topicShared", inPlace := ["internal/bytealg.IndexByteString", "internal/bytealg.IndexString", "internal/abi.NoEscape", "internal/bytealg.MakeNoZero"], recurses := true, named := ["internal/bytealg.MaxLen"], apart := false, narrowed := true }
def TopicSharedUptoSaid : Prop := topicSharedUptoRow.holds Try.pinned (OpenSpec.upto topicSharedSpec)

end Rows
end Go.Proofs.Ytmjpnpnmhacknaa
