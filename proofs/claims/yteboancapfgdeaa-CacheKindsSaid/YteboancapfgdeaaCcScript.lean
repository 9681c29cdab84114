/- Proved here: a script of calls, opened: each call's six cells. The arguments read again as they did. -/
import Derived.Test.YteboancapfgdeaaRows
import Derived.Test.YteboancapfgdeaaCcKindsB
import Derived.Deep.Slices
import Derived.Deep.Strs
import Derived.ChangeOld
import Derived.Carry
import Derived.WalkKit
import Derived.ProofKit
namespace Go.Proofs.Yteboancapfgdeaa
open Go Go.RowKit Go.WideShapes Go.ChangeShapes Go.Deep Go.Proofs.Cc

/-- One call, as its cells hold it. -/
structure OpV where
  kind : I64
  second : Bool
  name : Str
  n : I64
  v : I64
  stop : I64

instance : Inhabited OpV := ⟨⟨zeroI, false, zeroS, zeroI, zeroI, zeroI⟩⟩

structure OpAt (w : World) (b off : Nat) (o : OpV) : Prop where
  c0 : w.cell? ⟨b, off, none⟩ = some (.int .i64 o.kind.1)
  c1 : w.cell? ⟨b, off + 1, none⟩ = some (.bool o.second)
  c2 : w.cell? ⟨b, off + 2, none⟩ = some (.string o.name.1)
  c3 : w.cell? ⟨b, off + 3, none⟩ = some (.int .i64 o.n.1)
  c4 : w.cell? ⟨b, off + 4, none⟩ = some (.int .i64 o.v.1)
  c5 : w.cell? ⟨b, off + 5, none⟩ = some (.int .i64 o.stop.1)

def ScriptAt (w : World) (a : Option Addr) (L : List OpV) : Prop :=
  ∀ i (h : i < L.length), ∃ b off, a = some ⟨b, off, none⟩ ∧ b < w.heap.size ∧ OpAt w b (off + i * 6) L[i]

theorem OpAt.below {w w' : World} {B b off : Nat} {o : OpV} (h : OpAt w b off o) (hb : Below B w w') (hl : b < B) : OpAt w' b off o :=
  ⟨(hb.cell hl).trans h.c0, (hb.cell hl).trans h.c1, (hb.cell hl).trans h.c2, (hb.cell hl).trans h.c3, (hb.cell hl).trans h.c4, (hb.cell hl).trans h.c5⟩

theorem op_new (w : World) (op : OpV) {W : World} {t : TypeId} (h : w.alloc (.cells #[.int .i64 op.kind.1, .bool op.second, .string op.name.1, .int .i64 op.n.1, .int .i64 op.v.1, .int .i64 op.stop.1] t) = W) :
    Below w.heap.size w W ∧ W.heap.size = w.heap.size + 1 ∧ OpAt W w.heap.size 0 op := by
  subst h
  have g0 := (MapKept.heap_alloc w (.cells #[.int .i64 op.kind.1, .bool op.second, .string op.name.1, .int .i64 op.n.1, .int .i64 op.v.1, .int .i64 op.stop.1] t)).1
  refine ⟨(Below.refl _ w).alloc (Nat.le_refl _) _, by simp, ?_, ?_, ?_, ?_, ?_, ?_⟩ <;> (unfold World.cell?; simp only; rw [g0]; rfl)

theorem ScriptAt.op {w w' : World} {a : Option Addr} {L : List OpV} (h : ScriptAt w a L) (hb : Below w.heap.size w w') {i : Nat} (hi : i < L.length) :
    ∃ b off, a = some ⟨b, off, none⟩ ∧ b < w.heap.size ∧ OpAt w' b (off + i * 6) L[i] := by
  obtain ⟨b, off, h1, h2, h3⟩ := h i hi
  exact ⟨b, off, h1, h2, h3.below hb h2⟩

theorem cell_lt {w : World} {a : Addr} {v : Value} (h : w.cell? a = some v) : a.block < w.heap.size := by
  unfold World.cell? at h
  split at h
  · rename_i hb
    exact (Array.getElem?_eq_some_iff.1 hb).1
  · cases h

section
variable {H : Type} {enc : TypeId × Value → H}

set_option maxRecDepth 100000 in
theorem open_op {W : World} {n : Nat} {cs : List Value} {x : DataW H × List MemPlace} (h : DataW.trod enc Try.prog W 0 (fun _ => true) true n 33 cs = some x) :
    ∃ o : OpV, cs = [.int .i64 o.kind.1, .bool o.second, .string o.name.1, .int .i64 o.n.1, .int .i64 o.v.1, .int .i64 o.stop.1] := by
  obtain ⟨xs, m, _, rfl, hl, hxl, hf⟩ := DataW.trod_struct Try.underlying33 h
  have hc6 : Try.prog.cellsOf 33 = 6 := by kernel_rfl
  rw [hc6] at hl
  match cs, hl with
  | [c0, c1, c2, c3, c4, c5], _ =>
    have f0 := hf 0 { name := "Kind", type := 3, offset := 0, embedded := false, tag := "", pkgPath := "", byteOffset := 0 } rfl
    have f1 := hf 1 { name := "Second", type := 4, offset := 1, embedded := false, tag := "", pkgPath := "", byteOffset := 8 } rfl
    have f2 := hf 2 { name := "K", type := 31, offset := 2, embedded := false, tag := "", pkgPath := "", byteOffset := 16 } rfl
    have f3 := hf 3 { name := "V", type := 3, offset := 4, embedded := false, tag := "", pkgPath := "", byteOffset := 40 } rfl
    have f4 := hf 4 { name := "Stop", type := 3, offset := 5, embedded := false, tag := "", pkgPath := "", byteOffset := 48 } rfl
    simp at hxl
    match xs, hxl with
    | [x0, x1, x2, x3, x4], _ =>
      have k3 : Try.prog.cellsOf 3 = 1 := by kernel_rfl
      have k4 : Try.prog.cellsOf 4 = 1 := by kernel_rfl
      have k31 : Try.prog.cellsOf 31 = 2 := by kernel_rfl
      have k9 : Try.prog.cellsOf 9 = 1 := by kernel_rfl
      simp only [k3, k4, k31] at f0 f1 f2 f3 f4
      obtain ⟨n0, e0, _, w0⟩ := DataW.trod_int Try.underlying3 f0
      obtain ⟨n1, e1, _⟩ := DataW.trod_bool Try.underlying4 f1
      obtain ⟨n3, e3, _, w3⟩ := DataW.trod_int Try.underlying3 f3
      obtain ⟨n4, e4, _, w4⟩ := DataW.trod_int Try.underlying3 f4
      obtain ⟨y0, y1, m', _, _, g0, g1⟩ := trod_struct2 Try.underlying31 f2
      simp only [k3, k9] at g0 g1
      obtain ⟨s, e5, _, ws⟩ := DataW.trod_string Try.underlying9 g0
      obtain ⟨n6, e6, _, w6⟩ := DataW.trod_int Try.underlying3 g1
      obtain rfl : c0 = .int .i64 n0 := List.head_eq_of_cons_eq (show c0 :: [] = _ :: [] from e0)
      obtain rfl : c1 = .bool n1 := List.head_eq_of_cons_eq (show c1 :: [] = _ :: [] from e1)
      obtain rfl : c2 = .string s := List.head_eq_of_cons_eq (show c2 :: [] = _ :: [] from e5)
      obtain rfl : c3 = .int .i64 n6 := List.head_eq_of_cons_eq (show c3 :: [] = _ :: [] from e6)
      obtain rfl : c4 = .int .i64 n3 := List.head_eq_of_cons_eq (show c4 :: [] = _ :: [] from e3)
      obtain rfl : c5 = .int .i64 n4 := List.head_eq_of_cons_eq (show c5 :: [] = _ :: [] from e4)
      exact ⟨⟨⟨n0, w0⟩, n1, ⟨s, ws⟩, ⟨n6, w6⟩, ⟨n3, w3⟩, ⟨n4, w4⟩⟩, rfl⟩

theorem open_script {W : World} {v : Value} {d : DataW H} {ps : List MemPlace} (hv : ∃ a len cap, v = .slice a len cap) (h : DataW.Trod enc Try.prog W 0 (fun _ => true) true 22 v d ps) :
    ∃ (a : Option Addr) (L : List OpV) (cap : Nat), v = .slice a L.length cap ∧ L.length ≤ maxLen ∧ ScriptAt W a L := by
  obtain ⟨a, len, cap, rfl⟩ := hv
  obtain ⟨n, h⟩ := h
  rcases open_slice Try.underlying22 h with ⟨hcs, _⟩ | ⟨a', len', cap', m, n', D, Pl, hcs, hb, hl, hm, hmm, hx, hall⟩
  · simp [Value.cells] at hcs
    obtain ⟨rfl, rfl, rfl⟩ := hcs
    exact ⟨none, [], 0, rfl, Nat.zero_le _, fun i hi => absurd hi (Nat.not_lt_zero _)⟩
  · simp [Value.cells] at hcs
    obtain ⟨rfl, rfl, rfl⟩ := hcs
    have hm' : len ≤ m := by rw [hmm]; simpa using hl
    have hc6 : Try.prog.cellsOf 33 = 6 := by kernel_rfl
    rw [hc6] at hall
    have key : ∀ i, i < len → ∃ o : OpV, ∃ b off, some a' = some (⟨b, off, none⟩ : Addr) ∧ b < W.heap.size ∧ OpAt W b (off + i * 6) o := by
      intro i hi
      have hspot : a'.spot = none := by
        obtain ⟨cs0, k1, k2⟩ := hall 0 (by omega)
        obtain ⟨o0, rfl⟩ := open_op k2
        obtain ⟨_, _, hcell0⟩ := World.cells?_some k1
        have g0 := hcell0 0 (by omega)
        simpa [Addr.add] using World.cell?_spot (show W.cell? _ = some (.int .i64 o0.kind.1) from g0)
      obtain ⟨b, off, spot⟩ := a'
      simp only at hspot
      subst hspot
      obtain ⟨cs', h1, h2⟩ := hall i (by omega)
      obtain ⟨o, rfl⟩ := open_op h2
      obtain ⟨_, hlen, hcell⟩ := World.cells?_some h1
      rw [add_plain] at hcell
      have g0 := hcell 0 (by omega)
      rw [add_plain, Nat.add_zero] at g0
      have g1 := hcell 1 (by omega)
      have g2 := hcell 2 (by omega)
      have g3 := hcell 3 (by omega)
      have g4 := hcell 4 (by omega)
      have g5 := hcell 5 (by omega)
      rw [add_plain] at g1 g2 g3 g4 g5
      exact ⟨o, b, off, rfl, by simpa using cell_lt (show W.cell? _ = some (.int .i64 o.kind.1) from g0), g0, g1, g2, g3, g4, g5⟩
    obtain ⟨f, hf⟩ := choose_lt key
    refine ⟨some a', (List.range len).map f, cap, by simp, by simp; omega, fun i hi => ?_⟩
    simp at hi
    simpa using hf i hi

/-- An argument reads behind the call as it did ahead of it. -/
theorem again {W W' : World} {t : TypeId} {v : Value} {d : DataW H} {ps : List MemPlace} (hr : Try.prog.readableRec t = true) (hrow : t < Try.prog.types.size)
    (h : DataW.Trod enc Try.prog W 0 (fun _ => true) true t v d ps) (hb : Below W.heap.size W W') : DataW.Trod enc Try.prog W' 0 (fun b => decide (b < W.heap.size)) true t v d ps := by
  have hl : laidOutB Try.prog = true := by kernel_rfl
  exact Below.trod hl hr hrow h hb (fun x hx => by obtain ⟨n, hn⟩ := h; exact DataW.trod_lt n _ _ _ hn x hx)

theorem script_readable : Try.prog.readableRec 22 = true := by kernel_rfl
theorem script_row : 22 < Try.prog.types.size := by decide +kernel
end
end Go.Proofs.Yteboancapfgdeaa
