/-
  No cell of these rows narrows 'for every input' (looked for: loops, veiled, ifaces, maps, wideKeys, modest, calm, conditions, laid).
  DERIVED. THE GIVEN ROWS OF THIS SEAT. 4 by the template 'for every input the law returns true; each argument reads behind the call as it read before'; 0 by the template 'total and deterministic' (their statements: YtppndkbicekkjaaTotals.lean).
  GIVEN WITH THE SEED: the statements are not yours to turn. If you find one false, say at which input.
  Laid BY PROGRAM, IN A SANDBOX (cutbox-rows.mjs): the forced cells as the released guide's own fill.sh prints them over the translation 3a35a1f77e5b0781… (all of the seat's roots in one cut). By AI agents, Wed Nov 11 2026. No macro, syntax, notation, axiom, sorry.
-/
import Derived.Test.YtppndkbicekkjaaChecked
import GoSem.Claim
import GoSem.ClaimJoined
import GoSem.ClaimMapViews
import Derived.JoinedTies
import Derived.KernelRfl
namespace Go.Proofs.Ytppndkbicekkjaa
/- THE CELL 'sum', in the pinned program and in every row, IS THE sha256 OF THE DUMP (.gsa) THAT YtppndkbicekkjaaProg.lean LOADS. Nothing in Lean hashes anything: it is a label: what it is worth is what the hold of that sum in a sandbox is worth. -/
noncomputable def Try.pinned : Pinned := { name := "ytppndkbicekkjaa", sum := "3a35a1f77e5b07815feaac87e60c56625f9d46d241af5682d625256d8f7ef57d", checked := Try.checked }
namespace Rows
def none {H : Type} : Left H := { results := [], args := [] }

/-- 'crierlaw13.SessionLong': WHATEVER THE INPUT: true; the input reads as it did. -/
def sessionLongSpec : ChangeSpec := { name := "sessionLong", fn := fun _ => fun
  | [d1, d2, d3] => { results := [.lit (.bool true)], args := [d1, d2, d3] }
  | _ => none }
def sessionLongRow : OpenClaim := { program := "ytppndkbicekkjaa", sum := "3a35a1f77e5b07815feaac87e60c56625f9d46d241af5682d625256d8f7ef57d", func := "crier/crierlaw13.SessionLong", spec := "sessionLong", inPlace := ["slices.overlaps[crier/api.Ask]"], unfollowed := true, recurses := true, apart := false }
def SessionLongSaid : Prop := sessionLongRow.holds Try.pinned (OpenSpec.ofChange sessionLongSpec)

/-- ITS FALSE NEIGHBOUR: 'it returns false'. Refute it at one input. -/
def sessionLongWrong : ChangeSpec := { name := "sessionLong", fn := fun _ => fun
  | [d1, d2, d3] => { results := [.lit (.bool false)], args := [d1, d2, d3] }
  | _ => none }
def SessionLongWrongFalsely : Prop := sessionLongRow.holds Try.pinned (OpenSpec.ofChange sessionLongWrong)

/-- 'crierlaw13.SessionFull': WHATEVER THE INPUT: true; the input reads as it did. -/
def sessionFullSpec : ChangeSpec := { name := "sessionFull", fn := fun _ => fun
  | [d] => { results := [.lit (.bool true)], args := [d] }
  | _ => none }
def sessionFullRow : OpenClaim := { program := "ytppndkbicekkjaa", sum := "3a35a1f77e5b07815feaac87e60c56625f9d46d241af5682d625256d8f7ef57d", func := "crier/crierlaw13.SessionFull", spec := "sessionFull", inPlace := ["slices.overlaps[crier/api.Ask]"], unfollowed := true, recurses := true, apart := false }
def SessionFullSaid : Prop := sessionFullRow.holds Try.pinned (OpenSpec.ofChange sessionFullSpec)

/-- ITS FALSE NEIGHBOUR: 'it returns false'. Refute it at one input. -/
def sessionFullWrong : ChangeSpec := { name := "sessionFull", fn := fun _ => fun
  | [d] => { results := [.lit (.bool false)], args := [d] }
  | _ => none }
def SessionFullWrongFalsely : Prop := sessionFullRow.holds Try.pinned (OpenSpec.ofChange sessionFullWrong)

/-- 'crierlaw13.SessionKeeps': WHATEVER THE INPUT: true; the input reads as it did. -/
def sessionKeepsSpec : ChangeSpec := { name := "sessionKeeps", fn := fun _ => fun
  | [d1, d2, d3] => { results := [.lit (.bool true)], args := [d1, d2, d3] }
  | _ => none }
def sessionKeepsRow : OpenClaim := { program := "ytppndkbicekkjaa", sum := "3a35a1f77e5b07815feaac87e60c56625f9d46d241af5682d625256d8f7ef57d", func := "crier/crierlaw13.SessionKeeps", spec := "sessionKeeps", inPlace := ["slices.overlaps[crier/api.Ask]"], unfollowed := true, recurses := true, apart := false }
def SessionKeepsSaid : Prop := sessionKeepsRow.holds Try.pinned (OpenSpec.ofChange sessionKeepsSpec)

/-- ITS FALSE NEIGHBOUR: 'it returns false'. Refute it at one input. -/
def sessionKeepsWrong : ChangeSpec := { name := "sessionKeeps", fn := fun _ => fun
  | [d1, d2, d3] => { results := [.lit (.bool false)], args := [d1, d2, d3] }
  | _ => none }
def SessionKeepsWrongFalsely : Prop := sessionKeepsRow.holds Try.pinned (OpenSpec.ofChange sessionKeepsWrong)

/-- 'crierlaw13.SessionBack': WHATEVER THE INPUT: true; the input reads as it did. -/
def sessionBackSpec : ChangeSpec := { name := "sessionBack", fn := fun _ => fun
  | [d1, d2, d3, d4] => { results := [.lit (.bool true)], args := [d1, d2, d3, d4] }
  | _ => none }
def sessionBackRow : OpenClaim := { program := "ytppndkbicekkjaa", sum := "3a35a1f77e5b07815feaac87e60c56625f9d46d241af5682d625256d8f7ef57d", func := "crier/crierlaw13.SessionBack", spec := "sessionBack", inPlace := ["slices.overlaps[crier/api.Ask]"], unfollowed := true, recurses := true, apart := false }
def SessionBackSaid : Prop := sessionBackRow.holds Try.pinned (OpenSpec.ofChange sessionBackSpec)

/-- ITS FALSE NEIGHBOUR: 'it returns false'. Refute it at one input. -/
def sessionBackWrong : ChangeSpec := { name := "sessionBack", fn := fun _ => fun
  | [d1, d2, d3, d4] => { results := [.lit (.bool false)], args := [d1, d2, d3, d4] }
  | _ => none }
def SessionBackWrongFalsely : Prop := sessionBackRow.holds Try.pinned (OpenSpec.ofChange sessionBackWrong)

/- THE SECOND FORM. 'bulk': how many values and letters a reading holds, each counted each time it is reached (what is shared counts as often as it is met; a slice's spare places count too). A statement '..UptoSaid' is the law's where the arguments, and the package variables that the reading takes, are together of bulk at most 1048576: NARROWER than '..Said'. Prove '..Said' where nothing that the law and all that it calls make is longer than what came in: it says more and counts as full. Else prove '..UptoSaid'. A law counts once. -/
mutual
def uptoBulk {H : Type} : DataW H → Nat
  | .lit (.string bytes) => bytes.length + 1
  | .lit _ => 1
  | .nil => 1
  | .ptr d => uptoBulk d + 1
  | .slice elems spare => uptoBulkAll elems + uptoBulkAll spare + 1
  | .agg parts => uptoBulkAll parts + 1
  | .iface _ d => uptoBulk d + 1
  | .map entries => uptoBulkEntries entries + 1
  | .held _ => 1
def uptoBulkAll {H : Type} : List (DataW H) → Nat
  | [] => 0
  | d :: r => uptoBulk d + uptoBulkAll r
def uptoBulkEntries {H : Type} : List (Lit × DataW H) → Nat
  | [] => 0
  | x :: r => uptoBulkEntry x + uptoBulkEntries r
def uptoBulkEntry {H : Type} : Lit × DataW H → Nat
  | (.string bytes, d) => bytes.length + uptoBulk d + 1
  | (_, d) => uptoBulk d + 1
 end
def uptoSmall : (H : Type) → List (DataW H) → Bool := fun _ ds => decide (uptoBulkAll ds ≤ 1048576)
def OpenSpec.upto (s : _root_.Go.ChangeSpec) : _root_.Go.OpenSpec := { _root_.Go.OpenSpec.ofChange s with cond := some uptoSmall }

/-- 'crierlaw13.SessionLong', WHERE WHAT IT READS IS OF BULK AT MOST 1048576: true; the input reads as it did. -/
def sessionLongUptoRow : OpenClaim := { program := "ytppndkbicekkjaa", sum := "3a35a1f77e5b07815feaac87e60c56625f9d46d241af5682d625256d8f7ef57d", func := "crier/crierlaw13.SessionLong", spec := "sessionLong", inPlace := ["slices.overlaps[crier/api.Ask]"], unfollowed := true, recurses := true, apart := false, narrowed := true }
def SessionLongUptoSaid : Prop := sessionLongUptoRow.holds Try.pinned (OpenSpec.upto sessionLongSpec)

/-- 'crierlaw13.SessionFull', WHERE WHAT IT READS IS OF BULK AT MOST 1048576: true; the input reads as it did. -/
def sessionFullUptoRow : OpenClaim := { program := "ytppndkbicekkjaa", sum := "3a35a1f77e5b07815feaac87e60c56625f9d46d241af5682d625256d8f7ef57d", func := "crier/crierlaw13.SessionFull", spec := "sessionFull", inPlace := ["slices.overlaps[crier/api.Ask]"], unfollowed := true, recurses := true, apart := false, narrowed := true }
def SessionFullUptoSaid : Prop := sessionFullUptoRow.holds Try.pinned (OpenSpec.upto sessionFullSpec)

/-- 'crierlaw13.SessionKeeps', WHERE WHAT IT READS IS OF BULK AT MOST 1048576: true; the input reads as it did. -/
def sessionKeepsUptoRow : OpenClaim := { program := "ytppndkbicekkjaa", sum := "3a35a1f77e5b07815feaac87e60c56625f9d46d241af5682d625256d8f7ef57d", func := "crier/crierlaw13.SessionKeeps", spec := "sessionKeeps", inPlace := ["slices.overlaps[crier/api.Ask]"], unfollowed := true, recurses := true, apart := false, narrowed := true }
def SessionKeepsUptoSaid : Prop := sessionKeepsUptoRow.holds Try.pinned (OpenSpec.upto sessionKeepsSpec)

/-- 'crierlaw13.SessionBack', WHERE WHAT IT READS IS OF BULK AT MOST 1048576: true; the input reads as it did. -/
def sessionBackUptoRow : OpenClaim := { program := "ytppndkbicekkjaa", sum := "3a35a1f77e5b07815feaac87e60c56625f9d46d241af5682d625256d8f7ef57d", func := "crier/crierlaw13.SessionBack", spec := "sessionBack", inPlace := ["slices.overlaps[crier/api.Ask]"], unfollowed := true, recurses := true, apart := false, narrowed := true }
def SessionBackUptoSaid : Prop := sessionBackUptoRow.holds Try.pinned (OpenSpec.upto sessionBackSpec)

end Rows
end Go.Proofs.Ytppndkbicekkjaa
