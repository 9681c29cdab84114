/-
  No cell of these rows narrows 'for every input' (looked for: loops, veiled, ifaces, maps, wideKeys, modest, calm, conditions, laid).
  DERIVED. THE GIVEN ROWS OF THIS SEAT. 6 by the template 'for every input the law returns true; each argument reads behind the call as it read before'; 0 by the template 'total and deterministic' (their statements: YtaiikocnpdgocaaTotals.lean).
  GIVEN WITH THE SEED: the statements are not yours to turn. If you find one false, say at which input.
  Laid BY PROGRAM, IN A SANDBOX (cutbox-rows.mjs): the forced cells as the released guide's own fill.sh prints them over the translation bdd2c622c7cc374f… (all of the seat's roots in one cut). By AI agents, Wed Nov 11 2026. No macro, syntax, notation, axiom, sorry.
-/
import Derived.Test.YtaiikocnpdgocaaChecked
import GoSem.Claim
import GoSem.ClaimJoined
import GoSem.ClaimMapViews
import Derived.JoinedTies
import Derived.KernelRfl
namespace Go.Proofs.Ytaiikocnpdgocaa
/- THE CELL 'sum', in the pinned program and in every row, IS THE sha256 OF THE DUMP (.gsa) THAT YtaiikocnpdgocaaProg.lean LOADS. Nothing in Lean hashes anything: it is a label: what it is worth is what the hold of that sum in a sandbox is worth. -/
noncomputable def Try.pinned : Pinned := { name := "ytaiikocnpdgocaa", sum := "bdd2c622c7cc374fba89563bf5a9b58e7461dbf022b5edf0b2608f1a241a13da", checked := Try.checked }
namespace Rows
def none {H : Type} : Left H := { results := [], args := [] }

/-- 'crierlaw5.TopicNames': WHATEVER THE INPUT: true; the input reads as it did. -/
def topicNamesSpec : ChangeSpec := { name := "topicNames", fn := fun _ => fun
  | [] => { results := [.lit (.bool true)], args := [] }
  | _ => none }
def topicNamesRow : OpenClaim := { program := "ytaiikocnpdgocaa", sum := "bdd2c622c7cc374fba89563bf5a9b58e7461dbf022b5edf0b2608f1a241a13da", func := "crier/crierlaw5.TopicNames", spec := "topicNames", apart := false }
def TopicNamesSaid : Prop := topicNamesRow.holds Try.pinned (OpenSpec.ofChange topicNamesSpec)

/-- ITS FALSE NEIGHBOUR: 'it returns false'. Refute it at one input. -/
def topicNamesWrong : ChangeSpec := { name := "topicNames", fn := fun _ => fun
  | [] => { results := [.lit (.bool false)], args := [] }
  | _ => none }
def TopicNamesWrongFalsely : Prop := topicNamesRow.holds Try.pinned (OpenSpec.ofChange topicNamesWrong)

/-- 'crierlaw10.ListNames': WHATEVER THE INPUT: true; the input reads as it did. -/
def listNamesSpec : ChangeSpec := { name := "listNames", fn := fun _ => fun
  | [] => { results := [.lit (.bool true)], args := [] }
  | _ => none }
def listNamesRow : OpenClaim := { program := "ytaiikocnpdgocaa", sum := "bdd2c622c7cc374fba89563bf5a9b58e7461dbf022b5edf0b2608f1a241a13da", func := "crier/crierlaw10.ListNames", spec := "listNames", apart := false }
def ListNamesSaid : Prop := listNamesRow.holds Try.pinned (OpenSpec.ofChange listNamesSpec)

/-- ITS FALSE NEIGHBOUR: 'it returns false'. Refute it at one input. -/
def listNamesWrong : ChangeSpec := { name := "listNames", fn := fun _ => fun
  | [] => { results := [.lit (.bool false)], args := [] }
  | _ => none }
def ListNamesWrongFalsely : Prop := listNamesRow.holds Try.pinned (OpenSpec.ofChange listNamesWrong)

/-- 'crierlaw7.SubtrieNames': WHATEVER THE INPUT: true; the input reads as it did. -/
def subtrieNamesSpec : ChangeSpec := { name := "subtrieNames", fn := fun _ => fun
  | [] => { results := [.lit (.bool true)], args := [] }
  | _ => none }
def subtrieNamesRow : OpenClaim := { program := "ytaiikocnpdgocaa", sum := "bdd2c622c7cc374fba89563bf5a9b58e7461dbf022b5edf0b2608f1a241a13da", func := "crier/crierlaw7.SubtrieNames", spec := "subtrieNames", apart := false }
def SubtrieNamesSaid : Prop := subtrieNamesRow.holds Try.pinned (OpenSpec.ofChange subtrieNamesSpec)

/-- ITS FALSE NEIGHBOUR: 'it returns false'. Refute it at one input. -/
def subtrieNamesWrong : ChangeSpec := { name := "subtrieNames", fn := fun _ => fun
  | [] => { results := [.lit (.bool false)], args := [] }
  | _ => none }
def SubtrieNamesWrongFalsely : Prop := subtrieNamesRow.holds Try.pinned (OpenSpec.ofChange subtrieNamesWrong)

/-- 'crierlaw11.RouterNames': WHATEVER THE INPUT: true; the input reads as it did. -/
def routerNamesSpec : ChangeSpec := { name := "routerNames", fn := fun _ => fun
  | [] => { results := [.lit (.bool true)], args := [] }
  | _ => none }
def routerNamesRow : OpenClaim := { program := "ytaiikocnpdgocaa", sum := "bdd2c622c7cc374fba89563bf5a9b58e7461dbf022b5edf0b2608f1a241a13da", func := "crier/crierlaw11.RouterNames", spec := "routerNames", apart := false }
def RouterNamesSaid : Prop := routerNamesRow.holds Try.pinned (OpenSpec.ofChange routerNamesSpec)

/-- ITS FALSE NEIGHBOUR: 'it returns false'. Refute it at one input. -/
def routerNamesWrong : ChangeSpec := { name := "routerNames", fn := fun _ => fun
  | [] => { results := [.lit (.bool false)], args := [] }
  | _ => none }
def RouterNamesWrongFalsely : Prop := routerNamesRow.holds Try.pinned (OpenSpec.ofChange routerNamesWrong)

/-- 'crierlaw9.RettrieNames': WHATEVER THE INPUT: true; the input reads as it did. -/
def rettrieNamesSpec : ChangeSpec := { name := "rettrieNames", fn := fun _ => fun
  | [] => { results := [.lit (.bool true)], args := [] }
  | _ => none }
def rettrieNamesRow : OpenClaim := { program := "ytaiikocnpdgocaa", sum := "bdd2c622c7cc374fba89563bf5a9b58e7461dbf022b5edf0b2608f1a241a13da", func := "crier/crierlaw9.RettrieNames", spec := "rettrieNames", apart := false }
def RettrieNamesSaid : Prop := rettrieNamesRow.holds Try.pinned (OpenSpec.ofChange rettrieNamesSpec)

/-- ITS FALSE NEIGHBOUR: 'it returns false'. Refute it at one input. -/
def rettrieNamesWrong : ChangeSpec := { name := "rettrieNames", fn := fun _ => fun
  | [] => { results := [.lit (.bool false)], args := [] }
  | _ => none }
def RettrieNamesWrongFalsely : Prop := rettrieNamesRow.holds Try.pinned (OpenSpec.ofChange rettrieNamesWrong)

/-- 'crierlaw13.SessionNames': WHATEVER THE INPUT: true; the input reads as it did. -/
def sessionNamesSpec : ChangeSpec := { name := "sessionNames", fn := fun _ => fun
  | [] => { results := [.lit (.bool true)], args := [] }
  | _ => none }
def sessionNamesRow : OpenClaim := { program := "ytaiikocnpdgocaa", sum := "bdd2c622c7cc374fba89563bf5a9b58e7461dbf022b5edf0b2608f1a241a13da", func := "crier/crierlaw13.SessionNames", spec := "sessionNames", apart := false }
def SessionNamesSaid : Prop := sessionNamesRow.holds Try.pinned (OpenSpec.ofChange sessionNamesSpec)

/-- ITS FALSE NEIGHBOUR: 'it returns false'. Refute it at one input. -/
def sessionNamesWrong : ChangeSpec := { name := "sessionNames", fn := fun _ => fun
  | [] => { results := [.lit (.bool false)], args := [] }
  | _ => none }
def SessionNamesWrongFalsely : Prop := sessionNamesRow.holds Try.pinned (OpenSpec.ofChange sessionNamesWrong)

/- THE SECOND FORM. 'bulk': how many values and letters a reading holds, each counted each time it is reached (what is shared counts as often as it is met; a slice's spare places count too). A statement '..UptoSaid' is the law's where the arguments, and the package variables that the reading takes, are together of bulk at most 1048576: NARROWER than '..Said'. Prove '..Said' where nothing that the law and all that it calls make is longer than what came in: it says more and counts as full. Else prove '..UptoSaid'. A law counts once. -/
mutual
def uptoBulk {H : Type} : DataW H → Nat
  | .lit (.string bytes) => bytes.length + 1
  | .lit _ => 1
  | .nil => 1
  | .ptr d => uptoBulk d + 1
  | .slice elems spare => uptoBulkAll elems + uptoBulkAll spare + 1
  | .agg parts => uptoBulkAll parts + 1
  | .iface _ d => uptoBulk d + 1
  | .map entries => uptoBulkEntries entries + 1
  | .held _ => 1
def uptoBulkAll {H : Type} : List (DataW H) → Nat
  | [] => 0
  | d :: r => uptoBulk d + uptoBulkAll r
def uptoBulkEntries {H : Type} : List (Lit × DataW H) → Nat
  | [] => 0
  | x :: r => uptoBulkEntry x + uptoBulkEntries r
def uptoBulkEntry {H : Type} : Lit × DataW H → Nat
  | (.string bytes, d) => bytes.length + uptoBulk d + 1
  | (_, d) => uptoBulk d + 1
 end
def uptoSmall : (H : Type) → List (DataW H) → Bool := fun _ ds => decide (uptoBulkAll ds ≤ 1048576)
def OpenSpec.upto (s : _root_.Go.ChangeSpec) : _root_.Go.OpenSpec := { _root_.Go.OpenSpec.ofChange s with cond := some uptoSmall }

/-- 'crierlaw5.TopicNames', WHERE WHAT IT READS IS OF BULK AT MOST 1048576: true; the input reads as it did. -/
def topicNamesUptoRow : OpenClaim := { program := "ytaiikocnpdgocaa", sum := "bdd2c622c7cc374fba89563bf5a9b58e7461dbf022b5edf0b2608f1a241a13da", func := "crier/crierlaw5.TopicNames", spec := "topicNames", apart := false, narrowed := true }
def TopicNamesUptoSaid : Prop := topicNamesUptoRow.holds Try.pinned (OpenSpec.upto topicNamesSpec)

/-- 'crierlaw10.ListNames', WHERE WHAT IT READS IS OF BULK AT MOST 1048576: true; the input reads as it did. -/
def listNamesUptoRow : OpenClaim := { program := "ytaiikocnpdgocaa", sum := "bdd2c622c7cc374fba89563bf5a9b58e7461dbf022b5edf0b2608f1a241a13da", func := "crier/crierlaw10.ListNames", spec := "listNames", apart := false, narrowed := true }
def ListNamesUptoSaid : Prop := listNamesUptoRow.holds Try.pinned (OpenSpec.upto listNamesSpec)

/-- 'crierlaw7.SubtrieNames', WHERE WHAT IT READS IS OF BULK AT MOST 1048576: true; the input reads as it did. -/
def subtrieNamesUptoRow : OpenClaim := { program := "ytaiikocnpdgocaa", sum := "bdd2c622c7cc374fba89563bf5a9b58e7461dbf022b5edf0b2608f1a241a13da", func := "crier/crierlaw7.SubtrieNames", spec := "subtrieNames", apart := false, narrowed := true }
def SubtrieNamesUptoSaid : Prop := subtrieNamesUptoRow.holds Try.pinned (OpenSpec.upto subtrieNamesSpec)

/-- 'crierlaw11.RouterNames', WHERE WHAT IT READS IS OF BULK AT MOST 1048576: true; the input reads as it did. -/
def routerNamesUptoRow : OpenClaim := { program := "ytaiikocnpdgocaa", sum := "bdd2c622c7cc374fba89563bf5a9b58e7461dbf022b5edf0b2608f1a241a13da", func := "crier/crierlaw11.RouterNames", spec := "routerNames", apart := false, narrowed := true }
def RouterNamesUptoSaid : Prop := routerNamesUptoRow.holds Try.pinned (OpenSpec.upto routerNamesSpec)

/-- 'crierlaw9.RettrieNames', WHERE WHAT IT READS IS OF BULK AT MOST 1048576: true; the input reads as it did. -/
def rettrieNamesUptoRow : OpenClaim := { program := "ytaiikocnpdgocaa", sum := "bdd2c622c7cc374fba89563bf5a9b58e7461dbf022b5edf0b2608f1a241a13da", func := "crier/crierlaw9.RettrieNames", spec := "rettrieNames", apart := false, narrowed := true }
def RettrieNamesUptoSaid : Prop := rettrieNamesUptoRow.holds Try.pinned (OpenSpec.upto rettrieNamesSpec)

/-- 'crierlaw13.SessionNames', WHERE WHAT IT READS IS OF BULK AT MOST 1048576: true; the input reads as it did. -/
def sessionNamesUptoRow : OpenClaim := { program := "ytaiikocnpdgocaa", sum := "bdd2c622c7cc374fba89563bf5a9b58e7461dbf022b5edf0b2608f1a241a13da", func := "crier/crierlaw13.SessionNames", spec := "sessionNames", apart := false, narrowed := true }
def SessionNamesUptoSaid : Prop := sessionNamesUptoRow.holds Try.pinned (OpenSpec.upto sessionNamesSpec)

end Rows
end Go.Proofs.Ytaiikocnpdgocaa
