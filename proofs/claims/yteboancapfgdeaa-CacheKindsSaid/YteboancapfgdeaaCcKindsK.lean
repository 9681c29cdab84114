/- Keys of two cells: a struct of a text and a number; an array of two bytes. -/
import Derived.Test.YteboancapfgdeaaProg
import Derived.Test.YteboancapfgdeaaCcKindsB
import Derived.Test.YteboancapfgdeaaCcCodesP
import Derived.ChangeKeys
import Derived.DeepKeys4
import Derived.Maps.Keyed
namespace Go.Proofs.Cc
open Go Go.RowKit Go.WideShapes

structure KeyV where
  name : Str
  n : I64
deriving DecidableEq

def kdK : Kd KeyV := ⟨fun x => .agg #[.string x.name.1, .int .i64 x.n.1], fun x => [.string x.name.1, .int .i64 x.n.1], fun x => .string (keyBytes [.string x.name.1.data.toList, .int .i64 x.n.1])⟩
def zeroK : KeyV := ⟨zeroS, zeroI⟩

theorem str_len (s : Str) : s.1.data.toList.length ≤ maxLen := by
  have := s.2
  rwa [Array.length_toList]

theorem okK : KeyOk kdK := ⟨fun a b h => by
  have h' : Lit.string (keyBytes [.string a.name.1.data.toList, .int .i64 a.n.1]) = Lit.string (keyBytes [.string b.name.1.data.toList, .int .i64 b.n.1]) := h
  injection h' with h'
  have h2 := keyBytes_inj (l := [.string a.name.1.data.toList, .int .i64 a.n.1]) (l' := [.string b.name.1.data.toList, .int .i64 b.n.1]) ⟨trivial, rfl, trivial⟩
    (by
      intro x hx
      simp only [List.mem_cons, List.not_mem_nil, or_false] at hx
      rcases hx with rfl | rfl
      · exact str_len a.name
      · exact a.n.2)
    (by
      intro x hx
      simp only [List.mem_cons, List.not_mem_nil, or_false] at hx
      rcases hx with rfl | rfl
      · exact str_len b.name
      · exact b.n.2) h'
  injection h2 with h3 h4
  injection h3 with h3
  injection h4 with h4
  injection h4 with _ h4
  obtain ⟨an, ai⟩ := a
  obtain ⟨bn, bi⟩ := b
  have e1 : an = bn := Str.ext h3
  have e2 : ai = bi := Subtype.ext h4
  rw [e1, e2], fun _ => trivial⟩

structure A2 where
  a : U8
  b : U8
deriving DecidableEq

def kdA : Kd A2 := ⟨fun x => .agg #[.int .u8 x.a.1, .int .u8 x.b.1], fun x => [.int .u8 x.a.1, .int .u8 x.b.1], fun x => .string (keyBytes [.int .u8 x.a.1, .int .u8 x.b.1])⟩
def zeroA : A2 := ⟨zeroU, zeroU⟩

theorem okA : KeyOk kdA := ⟨fun a b h => by
  have h' : Lit.string (keyBytes [.int .u8 a.a.1, .int .u8 a.b.1]) = Lit.string (keyBytes [.int .u8 b.a.1, .int .u8 b.b.1]) := h
  injection h' with h'
  have h2 := keyBytes_inj (l := [.int .u8 a.a.1, .int .u8 a.b.1]) (l' := [.int .u8 b.a.1, .int .u8 b.b.1]) ⟨rfl, rfl, trivial⟩
    (by
      intro x hx
      simp only [List.mem_cons, List.not_mem_nil, or_false] at hx
      rcases hx with rfl | rfl
      · exact a.a.2
      · exact a.b.2)
    (by
      intro x hx
      simp only [List.mem_cons, List.not_mem_nil, or_false] at hx
      rcases hx with rfl | rfl
      · exact b.a.2
      · exact b.b.2) h'
  injection h2 with h3 h4
  injection h3 with _ h3
  injection h4 with h4
  injection h4 with _ h4
  obtain ⟨aa, ab⟩ := a
  obtain ⟨ba, bb⟩ := b
  have e1 : aa = ba := Subtype.ext h3
  have e2 : ab = bb := Subtype.ext h4
  rw [e1, e2], fun _ => trivial⟩

theorem crow_get2 {K : Type} {KK : Kd K} {f g : K → Value} (hf : ∀ x, KK.cells x = [f x, g x]) : ∀ (L : List K) (i : Nat) (x : K), L[i]? = some x → (crow KK L)[i * 2]? = some (f x) ∧ (crow KK L)[i * 2 + 1]? = some (g x)
  | [], i, x, h => by simp at h
  | y :: L, 0, x, h => by simp at h; subst h; simp [crow, hf]
  | y :: L, i + 1, x, h => by
    have := crow_get2 hf L i x (by simpa using h)
    have e : (i + 1) * 2 = i * 2 + 1 + 1 := by omega
    rw [e]
    simpa [crow, hf] using this

end Go.Proofs.Cc
namespace Go.Proofs.Yteboancapfgdeaa
open Go Go.RowKit Go.WideShapes Go.Proofs.Cc

set_option maxRecDepth 100000 in
theorem keyK (x : KeyV) : keyOf Try.prog 31 (.agg #[.string x.name.1, .int .i64 x.n.1]) = some (kdK.lit x) := by
  have h1 : Try.prog.keyType 31 = true := by kernel_rfl
  have k2 : Try.prog.cellsOf 31 = 2 := by kernel_rfl
  have k9 : Try.prog.cellsOf 9 = 1 := by kernel_rfl
  have k3 : Try.prog.cellsOf 3 = 1 := by kernel_rfl
  have hs : ∃ m, Try.prog.types.size = m + 1 := ⟨Try.prog.types.size - 1, by kernel_rfl⟩
  obtain ⟨m, hm⟩ := hs
  have hw := x.n.2
  have hl := x.name.2
  unfold keyOf
  rw [Try.underlying31, hm]
  simp [h1, Value.formed, Try.underlying31, Try.underlying9, Try.underlying3, k2, k9, k3, Value.cells, Program.keyLits, kdK, hw, hl]

theorem keyedK : Maps.Keyed Try.prog 31 := Maps.Keyed.of_law (deep_law_laid (by kernel_rfl) (m := 2) (by omega) (by decide +kernel) (by kernel_rfl) (by rw [Try.underlying31]))

set_option maxRecDepth 100000 in
theorem keyA (x : A2) : keyOf Try.prog 52 (.agg #[.int .u8 x.a.1, .int .u8 x.b.1]) = some (kdA.lit x) := by
  have h1 : Try.prog.keyType 52 = true := by kernel_rfl
  have k2 : Try.prog.cellsOf 52 = 2 := by kernel_rfl
  have k5 : Try.prog.cellsOf 5 = 1 := by kernel_rfl
  have hs : ∃ m, Try.prog.types.size = m + 1 := ⟨Try.prog.types.size - 1, by kernel_rfl⟩
  obtain ⟨m, hm⟩ := hs
  have hw := x.a.2
  have hl := x.b.2
  unfold keyOf
  rw [Try.underlying52, hm]
  simp [h1, Value.formed, Try.underlying52, Try.underlying5, k2, k5, Value.cells, Program.keyLits, kdA, hw, hl, List.range_succ]

theorem keyedA : Maps.Keyed Try.prog 52 := Maps.Keyed.of_law (deep_law_laid (by kernel_rfl) (m := 2) (by omega) (by decide +kernel) (by kernel_rfl) (by rw [Try.underlying52]))
end Go.Proofs.Yteboancapfgdeaa
