/- Proved here: known, the chapter's example. -/
import Derived.Test.YteboancapfgdeaaCcSIKv
import Derived.Test.YteboancapfgdeaaCcBox
import Derived.Deep.DeepCutAuto
namespace Go.Proofs.Yteboancapfgdeaa
open Go.RowKit Go.Proofs.Cc

abbrev sA : Str := ⟨⟨#[97]⟩, by decide⟩
abbrev sB : Str := ⟨⟨#[98]⟩, by decide⟩
abbrev sC : Str := ⟨⟨#[99]⟩, by decide⟩
abbrev i1 : I64 := ⟨1, by decide⟩
abbrev i2 : I64 := ⟨2, by decide⟩
abbrev i3 : I64 := ⟨3, by decide⟩

def Kn (w0 : World) (c : Nat) (L : List (Str × I64)) (u : World) : Prop :=
  ∃ (E : List (Ent Str I64)) (S : Nat → Prop), CacheAt Try.prog 9 kdS kdI u c S 2 E ∧ E.map kv = L ∧ (∀ x, S x → w0.heap.size ≤ x) ∧ Below w0.heap.size w0 u

section
variable {w0 u u' : World} {c : Nat} {L L' : List (Str × I64)}

theorem Kn.step {S : Nat → Prop} (hb : Below w0.heap.size w0 u) (hS : ∀ x, S x → w0.heap.size ≤ x) (h : ∃ E' : List (Ent Str I64), CacheAt Try.prog 9 kdS kdI u' c (Grow S u) 2 E' ∧ E'.map kv = L') (hT : Turn S u u') : Kn w0 c L' u' := by
  obtain ⟨E', h1, h2⟩ := h
  refine ⟨E', _, h1, h2, fun x hx => hx.elim (hS x) (fun h => Nat.le_trans hb.size h), hb.trans (hT.below hb.size (fun x hx hs => by have := hS x hs; omega))⟩

theorem Kn.get (h : Kn w0 c L u) (k : Str) : Calls Try.prog 47 #[.pointer (some ⟨c, 0, none⟩), .string k.1] u fun ex u' => ex = .returned (.tuple #[.int .i64 (SI.numD k L), .bool (Cc.look k L).isSome]) ∧ Kn w0 c (SI.hitD k L) u' := by
  obtain ⟨E, S, h1, h2, h3, h4⟩ := h
  refine (SI.getKv h1 h2 k).mono ?_
  rintro ex u' ⟨rfl, h5, h6⟩
  exact ⟨rfl, Kn.step h4 h3 h5 h6⟩

theorem Kn.put (h : Kn w0 c L u) (k : Str) (v : I64) (hl : L.length ≤ 2) : Calls Try.prog 49 #[.pointer (some ⟨c, 0, none⟩), .string k.1, .int .i64 v.1] u fun ex u' => ex = .returned (.tuple #[]) ∧ Kn w0 c (putD 2 k v L) u' := by
  obtain ⟨E, S, h1, h2, h3, h4⟩ := h
  refine (SI.putKv h1 h2 k v (by omega) (by omega)).mono ?_
  rintro ex u' ⟨rfl, h5, h6⟩
  exact ⟨rfl, Kn.step h4 h3 h5 h6⟩

theorem Kn.drop (h : Kn w0 c L u) (k : Str) : Calls Try.prog 51 #[.pointer (some ⟨c, 0, none⟩), .string k.1] u fun ex u' => ex = .returned (.bool (decide (k ∈ L.map (·.1)))) ∧ Kn w0 c (rmD k L) u' := by
  obtain ⟨E, S, h1, h2, h3, h4⟩ := h
  refine (SI.dropKv h1 h2 k).mono ?_
  rintro ex u' ⟨rfl, h5, h6⟩
  exact ⟨rfl, Kn.step h4 h3 h5 h6⟩

theorem Kn.clear (h : Kn w0 c L u) : Calls Try.prog 53 #[.pointer (some ⟨c, 0, none⟩)] u fun ex u' => ex = .returned (.int .i64 L.length) ∧ Kn w0 c [] u' := by
  obtain ⟨E, S, h1, h2, h3, h4⟩ := h
  refine (SI.clearKv h1 h2).mono ?_
  rintro ex u' ⟨rfl, h5, h6⟩
  exact ⟨rfl, Kn.step h4 h3 h5 h6⟩

theorem Kn.len (h : Kn w0 c L u) : Calls Try.prog 55 #[.pointer (some ⟨c, 0, none⟩)] u fun ex u' => ex = .returned (.int .i64 L.length) ∧ u' = u := by
  obtain ⟨E, S, h1, h2, h3, h4⟩ := h
  exact SI.lenKv h1 h2

theorem Kn.oldest (h : Kn w0 c L u) : Calls Try.prog 56 #[.pointer (some ⟨c, 0, none⟩)] u fun ex u' => ex = .returned (.tuple #[.string ((L.getLast?.map (·.1)).getD zeroS).1, .bool L.getLast?.isSome]) ∧ Kn w0 c L u' := by
  obtain ⟨E, S, h1, h2, h3, h4⟩ := h
  refine (SI.oldestSI_any h1).mono ?_
  rintro ex u' ⟨rfl, hb⟩
  refine ⟨?_, E, _, (CacheAt.tight0 h1).frame (Below.toSame hb), h2, fun x hx => h3 x hx.1, h4.trans (hb.mono h4.size)⟩
  rw [← h2, List.getLast?_map, Option.map_map, Option.isSome_map]
  rfl
end

set_option maxRecDepth 100000 in
set_option maxHeartbeats 4000000 in
theorem known_any (w : World) : Calls Try.prog 27 #[] w fun ex w' => ex = .returned (.bool true) ∧ Below w.heap.size w w' := by
  go_enter Try.func27, Try.ntmps27
  go_wp2_with fail
  refine (SI.newSI_any (w := w) 2).mono ?_
  rintro ex u1 ⟨rfl, hC, hb⟩
  have H1 := Lib.hid (show Kn w w.heap.size [] u1 from ⟨[], _, hC (fun x => w.heap.size ≤ x) (fun _ h => h), rfl, fun _ h => h, hb⟩)
  clear hC hb
  go_wp2_with fail
  refine (H1.out.put sA i1 (by decide)).mono ?_
  rintro ex u2 ⟨rfl, h⟩
  rw [show putD 2 sA i1 [] = [(sA, i1)] from by kernel_rfl] at h
  have H2 := Lib.hid h
  clear h H1
  go_wp2_with fail
  refine (H2.out.put sB i2 (by decide)).mono ?_
  rintro ex u3 ⟨rfl, h⟩
  rw [show putD 2 sB i2 [(sA, i1)] = [(sB, i2), (sA, i1)] from by kernel_rfl] at h
  have H3 := Lib.hid h
  clear h H2
  go_wp2_with fail
  refine (H3.out.get sA).mono ?_
  rintro ex u4 ⟨rfl, h⟩
  rw [show SI.hitD sA [(sB, i2), (sA, i1)] = [(sA, i1), (sB, i2)] from by kernel_rfl] at h
  rw [show SI.numD sA [(sB, i2), (sA, i1)] = 1 from by kernel_rfl, show (Cc.look sA [(sB, i2), (sA, i1)]).isSome = true from by kernel_rfl]
  have H4 := Lib.hid h
  clear h H3
  go_wp2_with fail
  refine (H4.out.put sC i3 (by decide)).mono ?_
  rintro ex u5 ⟨rfl, h⟩
  rw [show putD 2 sC i3 [(sA, i1), (sB, i2)] = [(sC, i3), (sA, i1)] from by kernel_rfl] at h
  have H5 := Lib.hid h
  clear h H4
  go_wp2_with fail
  refine (H5.out.get sB).mono ?_
  rintro ex u6 ⟨rfl, h⟩
  rw [show SI.hitD sB [(sC, i3), (sA, i1)] = [(sC, i3), (sA, i1)] from by kernel_rfl] at h
  rw [show SI.numD sB [(sC, i3), (sA, i1)] = 0 from by kernel_rfl, show (Cc.look sB [(sC, i3), (sA, i1)]).isSome = false from by kernel_rfl]
  have H6 := Lib.hid h
  clear h H5
  go_wp2_with fail
  refine (H6.out.oldest).mono ?_
  rintro ex u7 ⟨rfl, h⟩
  rw [show (([(sC, i3), (sA, i1)] : List (Str × I64)).getLast?.map (·.1)).getD zeroS = sA from by kernel_rfl, show ([(sC, i3), (sA, i1)] : List (Str × I64)).getLast?.isSome = true from by kernel_rfl]
  have H7 := Lib.hid h
  clear h H6
  go_wp2_with fail
  refine (H7.out.len).mono ?_
  rintro ex u8 ⟨rfl, rfl⟩
  rw [show ((([(sC, i3), (sA, i1)] : List (Str × I64)).length : Nat) : Int) = 2 from rfl]
  go_wp2_with fail
  refine (H7.out.drop sC).mono ?_
  rintro ex u9 ⟨rfl, h⟩
  rw [show decide (sC ∈ ([(sC, i3), (sA, i1)] : List (Str × I64)).map (·.1)) = true from by kernel_rfl]
  rw [show rmD sC [(sC, i3), (sA, i1)] = [(sA, i1)] from by kernel_rfl] at h
  have H8 := Lib.hid h
  clear h H7
  go_wp2_with fail
  refine (H8.out.drop sC).mono ?_
  rintro ex u10 ⟨rfl, h⟩
  rw [show decide (sC ∈ ([(sA, i1)] : List (Str × I64)).map (·.1)) = false from by kernel_rfl]
  rw [show rmD sC [(sA, i1)] = [(sA, i1)] from by kernel_rfl] at h
  have H9 := Lib.hid h
  clear h H8
  go_wp2_with fail
  refine (H9.out.clear).mono ?_
  rintro ex u11 ⟨rfl, h⟩
  rw [show ((([(sA, i1)] : List (Str × I64)).length : Nat) : Int) = 1 from rfl]
  have H10 := Lib.hid h
  clear h H9
  go_wp2_with fail
  refine (H10.out.len).mono ?_
  rintro ex u12 ⟨rfl, rfl⟩
  rw [show ((([] : List (Str × I64)).length : Nat) : Int) = 0 from rfl]
  go_wp2_with fail
  go_ret
  obtain ⟨_, _, _, _, _, hb⟩ := H10.out
  exact ⟨rfl, hb⟩

end Go.Proofs.Yteboancapfgdeaa
