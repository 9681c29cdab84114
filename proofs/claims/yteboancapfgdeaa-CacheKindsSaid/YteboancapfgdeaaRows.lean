/-
  No cell of these rows narrows 'for every input' (looked for: loops, veiled, ifaces, maps, wideKeys, modest, calm, conditions, laid).
  DERIVED. THE GIVEN ROWS OF THIS SEAT. 6 by the template 'for every input the law returns true; each argument reads behind the call as it read before'; 0 by the template 'total and deterministic' (their statements: YteboancapfgdeaaTotals.lean).
  GIVEN WITH THE SEED: the statements are not yours to turn. If you find one false, say at which input.
  Laid BY PROGRAM, IN A SANDBOX (cutbox-rows.mjs): the forced cells as the released guide's own fill.sh prints them over the translation d253692c50f1cc7e… (all of the seat's roots in one cut). By AI agents, Wed Nov 11 2026. No macro, syntax, notation, axiom, sorry.
-/
import Derived.Test.YteboancapfgdeaaChecked
import GoSem.Claim
import GoSem.ClaimJoined
import GoSem.ClaimMapViews
import Derived.JoinedTies
import Derived.KernelRfl
namespace Go.Proofs.Yteboancapfgdeaa
/- THE CELL 'sum', in the pinned program and in every row, IS THE sha256 OF THE DUMP (.gsa) THAT YteboancapfgdeaaProg.lean LOADS. Nothing in Lean hashes anything: it is a label: what it is worth is what the hold of that sum in a sandbox is worth. -/
noncomputable def Try.pinned : Pinned := { name := "yteboancapfgdeaa", sum := "d253692c50f1cc7efbce02547f36398d2dac2173f0e1c364bd22ded68aaea26e", checked := Try.checked }
namespace Rows
def none {H : Type} : Left H := { results := [], args := [] }

/-- 'crierlaw8.CachePlays': WHATEVER THE INPUT: true; the input reads as it did. -/
def cachePlaysSpec : ChangeSpec := { name := "cachePlays", fn := fun _ => fun
  | [d1, d2, d3] => { results := [.lit (.bool true)], args := [d1, d2, d3] }
  | _ => none }
def cachePlaysRow : OpenClaim := { program := "yteboancapfgdeaa", sum := "d253692c50f1cc7efbce02547f36398d2dac2173f0e1c364bd22ded68aaea26e", func := "crier/crierlaw8.CachePlays", spec := "cachePlays", unfollowed := true, recurses := true, plainKeys := false, apart := false }
def CachePlaysSaid : Prop := cachePlaysRow.holds Try.pinned (OpenSpec.ofChange cachePlaysSpec)

/-- ITS FALSE NEIGHBOUR: 'it returns false'. Refute it at one input. -/
def cachePlaysWrong : ChangeSpec := { name := "cachePlays", fn := fun _ => fun
  | [d1, d2, d3] => { results := [.lit (.bool false)], args := [d1, d2, d3] }
  | _ => none }
def CachePlaysWrongFalsely : Prop := cachePlaysRow.holds Try.pinned (OpenSpec.ofChange cachePlaysWrong)

/-- 'crierlaw8.CacheKinds': WHATEVER THE INPUT: true; the input reads as it did. -/
def cacheKindsSpec : ChangeSpec := { name := "cacheKinds", fn := fun _ => fun
  | [d1, d2] => { results := [.lit (.bool true)], args := [d1, d2] }
  | _ => none }
def cacheKindsRow : OpenClaim := { program := "yteboancapfgdeaa", sum := "d253692c50f1cc7efbce02547f36398d2dac2173f0e1c364bd22ded68aaea26e", func := "crier/crierlaw8.CacheKinds", spec := "cacheKinds", unfollowed := true, recurses := true, plainKeys := false, apart := false }
def CacheKindsSaid : Prop := cacheKindsRow.holds Try.pinned (OpenSpec.ofChange cacheKindsSpec)

/-- ITS FALSE NEIGHBOUR: 'it returns false'. Refute it at one input. -/
def cacheKindsWrong : ChangeSpec := { name := "cacheKinds", fn := fun _ => fun
  | [d1, d2] => { results := [.lit (.bool false)], args := [d1, d2] }
  | _ => none }
def CacheKindsWrongFalsely : Prop := cacheKindsRow.holds Try.pinned (OpenSpec.ofChange cacheKindsWrong)

/-- 'crierlaw8.CacheMany': WHATEVER THE INPUT: true; the input reads as it did. -/
def cacheManySpec : ChangeSpec := { name := "cacheMany", fn := fun _ => fun
  | [d1, d2, d3] => { results := [.lit (.bool true)], args := [d1, d2, d3] }
  | _ => none }
def cacheManyRow : OpenClaim := { program := "yteboancapfgdeaa", sum := "d253692c50f1cc7efbce02547f36398d2dac2173f0e1c364bd22ded68aaea26e", func := "crier/crierlaw8.CacheMany", spec := "cacheMany", unfollowed := true, recurses := true, plainKeys := false, apart := false }
def CacheManySaid : Prop := cacheManyRow.holds Try.pinned (OpenSpec.ofChange cacheManySpec)

/-- ITS FALSE NEIGHBOUR: 'it returns false'. Refute it at one input. -/
def cacheManyWrong : ChangeSpec := { name := "cacheMany", fn := fun _ => fun
  | [d1, d2, d3] => { results := [.lit (.bool false)], args := [d1, d2, d3] }
  | _ => none }
def CacheManyWrongFalsely : Prop := cacheManyRow.holds Try.pinned (OpenSpec.ofChange cacheManyWrong)

/-- 'crierlaw8.CacheTrue': WHATEVER THE INPUT: true; the input reads as it did. -/
def cacheTrueSpec : ChangeSpec := { name := "cacheTrue", fn := fun _ => fun
  | [d1, d2] => { results := [.lit (.bool true)], args := [d1, d2] }
  | _ => none }
def cacheTrueRow : OpenClaim := { program := "yteboancapfgdeaa", sum := "d253692c50f1cc7efbce02547f36398d2dac2173f0e1c364bd22ded68aaea26e", func := "crier/crierlaw8.CacheTrue", spec := "cacheTrue", unfollowed := true, recurses := true, plainKeys := false, apart := false }
def CacheTrueSaid : Prop := cacheTrueRow.holds Try.pinned (OpenSpec.ofChange cacheTrueSpec)

/-- ITS FALSE NEIGHBOUR: 'it returns false'. Refute it at one input. -/
def cacheTrueWrong : ChangeSpec := { name := "cacheTrue", fn := fun _ => fun
  | [d1, d2] => { results := [.lit (.bool false)], args := [d1, d2] }
  | _ => none }
def CacheTrueWrongFalsely : Prop := cacheTrueRow.holds Try.pinned (OpenSpec.ofChange cacheTrueWrong)

/-- 'crierlaw8.CacheHides': WHATEVER THE INPUT: true; the input reads as it did. -/
def cacheHidesSpec : ChangeSpec := { name := "cacheHides", fn := fun _ => fun
  | [d1, d2] => { results := [.lit (.bool true)], args := [d1, d2] }
  | _ => none }
def cacheHidesRow : OpenClaim := { program := "yteboancapfgdeaa", sum := "d253692c50f1cc7efbce02547f36398d2dac2173f0e1c364bd22ded68aaea26e", func := "crier/crierlaw8.CacheHides", spec := "cacheHides", unfollowed := true, recurses := true, plainKeys := false, apart := false }
def CacheHidesSaid : Prop := cacheHidesRow.holds Try.pinned (OpenSpec.ofChange cacheHidesSpec)

/-- ITS FALSE NEIGHBOUR: 'it returns false'. Refute it at one input. -/
def cacheHidesWrong : ChangeSpec := { name := "cacheHides", fn := fun _ => fun
  | [d1, d2] => { results := [.lit (.bool false)], args := [d1, d2] }
  | _ => none }
def CacheHidesWrongFalsely : Prop := cacheHidesRow.holds Try.pinned (OpenSpec.ofChange cacheHidesWrong)

/-- 'crierlaw8.CacheLong': WHATEVER THE INPUT: true; the input reads as it did. -/
def cacheLongSpec : ChangeSpec := { name := "cacheLong", fn := fun _ => fun
  | [d1, d2, d3, d4] => { results := [.lit (.bool true)], args := [d1, d2, d3, d4] }
  | _ => none }
def cacheLongRow : OpenClaim := { program := "yteboancapfgdeaa", sum := "d253692c50f1cc7efbce02547f36398d2dac2173f0e1c364bd22ded68aaea26e", func := "crier/crierlaw8.CacheLong", spec := "cacheLong", unfollowed := true, recurses := true, plainKeys := false, apart := false }
def CacheLongSaid : Prop := cacheLongRow.holds Try.pinned (OpenSpec.ofChange cacheLongSpec)

/-- ITS FALSE NEIGHBOUR: 'it returns false'. Refute it at one input. -/
def cacheLongWrong : ChangeSpec := { name := "cacheLong", fn := fun _ => fun
  | [d1, d2, d3, d4] => { results := [.lit (.bool false)], args := [d1, d2, d3, d4] }
  | _ => none }
def CacheLongWrongFalsely : Prop := cacheLongRow.holds Try.pinned (OpenSpec.ofChange cacheLongWrong)

/- THE SECOND FORM. 'bulk': how many values and letters a reading holds, each counted each time it is reached (what is shared counts as often as it is met; a slice's spare places count too). A statement '..UptoSaid' is the law's where the arguments, and the package variables that the reading takes, are together of bulk at most 1048576: NARROWER than '..Said'. Prove '..Said' where nothing that the law and all that it calls make is longer than what came in: it says more and counts as full. Else prove '..UptoSaid'. A law counts once. -/
mutual
def uptoBulk {H : Type} : DataW H → Nat
  | .lit (.string bytes) => bytes.length + 1
  | .lit _ => 1
  | .nil => 1
  | .ptr d => uptoBulk d + 1
  | .slice elems spare => uptoBulkAll elems + uptoBulkAll spare + 1
  | .agg parts => uptoBulkAll parts + 1
  | .iface _ d => uptoBulk d + 1
  | .map entries => uptoBulkEntries entries + 1
  | .held _ => 1
def uptoBulkAll {H : Type} : List (DataW H) → Nat
  | [] => 0
  | d :: r => uptoBulk d + uptoBulkAll r
def uptoBulkEntries {H : Type} : List (Lit × DataW H) → Nat
  | [] => 0
  | x :: r => uptoBulkEntry x + uptoBulkEntries r
def uptoBulkEntry {H : Type} : Lit × DataW H → Nat
  | (.string bytes, d) => bytes.length + uptoBulk d + 1
  | (_, d) => uptoBulk d + 1
 end
def uptoSmall : (H : Type) → List (DataW H) → Bool := fun _ ds => decide (uptoBulkAll ds ≤ 1048576)
def OpenSpec.upto (s : _root_.Go.ChangeSpec) : _root_.Go.OpenSpec := { _root_.Go.OpenSpec.ofChange s with cond := some uptoSmall }

/-- 'crierlaw8.CachePlays', WHERE WHAT IT READS IS OF BULK AT MOST 1048576: true; the input reads as it did. -/
def cachePlaysUptoRow : OpenClaim := { program := "yteboancapfgdeaa", sum := "d253692c50f1cc7efbce02547f36398d2dac2173f0e1c364bd22ded68aaea26e", func := "crier/crierlaw8.CachePlays", spec := "cachePlays", unfollowed := true, recurses := true, plainKeys := false, apart := false, narrowed := true }
def CachePlaysUptoSaid : Prop := cachePlaysUptoRow.holds Try.pinned (OpenSpec.upto cachePlaysSpec)

/-- 'crierlaw8.CacheKinds', WHERE WHAT IT READS IS OF BULK AT MOST 1048576: true; the input reads as it did. -/
def cacheKindsUptoRow : OpenClaim := { program := "yteboancapfgdeaa", sum := "d253692c50f1cc7efbce02547f36398d2dac2173f0e1c364bd22ded68aaea26e", func := "crier/crierlaw8.CacheKinds", spec := "cacheKinds", unfollowed := true, recurses := true, plainKeys := false, apart := false, narrowed := true }
def CacheKindsUptoSaid : Prop := cacheKindsUptoRow.holds Try.pinned (OpenSpec.upto cacheKindsSpec)

/-- 'crierlaw8.CacheMany', WHERE WHAT IT READS IS OF BULK AT MOST 1048576: true; the input reads as it did. -/
def cacheManyUptoRow : OpenClaim := { program := "yteboancapfgdeaa", sum := "d253692c50f1cc7efbce02547f36398d2dac2173f0e1c364bd22ded68aaea26e", func := "crier/crierlaw8.CacheMany", spec := "cacheMany", unfollowed := true, recurses := true, plainKeys := false, apart := false, narrowed := true }
def CacheManyUptoSaid : Prop := cacheManyUptoRow.holds Try.pinned (OpenSpec.upto cacheManySpec)

/-- 'crierlaw8.CacheTrue', WHERE WHAT IT READS IS OF BULK AT MOST 1048576: true; the input reads as it did. -/
def cacheTrueUptoRow : OpenClaim := { program := "yteboancapfgdeaa", sum := "d253692c50f1cc7efbce02547f36398d2dac2173f0e1c364bd22ded68aaea26e", func := "crier/crierlaw8.CacheTrue", spec := "cacheTrue", unfollowed := true, recurses := true, plainKeys := false, apart := false, narrowed := true }
def CacheTrueUptoSaid : Prop := cacheTrueUptoRow.holds Try.pinned (OpenSpec.upto cacheTrueSpec)

/-- 'crierlaw8.CacheHides', WHERE WHAT IT READS IS OF BULK AT MOST 1048576: true; the input reads as it did. -/
def cacheHidesUptoRow : OpenClaim := { program := "yteboancapfgdeaa", sum := "d253692c50f1cc7efbce02547f36398d2dac2173f0e1c364bd22ded68aaea26e", func := "crier/crierlaw8.CacheHides", spec := "cacheHides", unfollowed := true, recurses := true, plainKeys := false, apart := false, narrowed := true }
def CacheHidesUptoSaid : Prop := cacheHidesUptoRow.holds Try.pinned (OpenSpec.upto cacheHidesSpec)

/-- 'crierlaw8.CacheLong', WHERE WHAT IT READS IS OF BULK AT MOST 1048576: true; the input reads as it did. -/
def cacheLongUptoRow : OpenClaim := { program := "yteboancapfgdeaa", sum := "d253692c50f1cc7efbce02547f36398d2dac2173f0e1c364bd22ded68aaea26e", func := "crier/crierlaw8.CacheLong", spec := "cacheLong", unfollowed := true, recurses := true, plainKeys := false, apart := false, narrowed := true }
def CacheLongUptoSaid : Prop := cacheLongUptoRow.holds Try.pinned (OpenSpec.upto cacheLongSpec)

end Rows
end Go.Proofs.Yteboancapfgdeaa
