/- Plain: a slice that reads as a row of cells, k to an element; nil and empty ones too. No program in sight. -/
import Derived.Test.YtgnffkahlniehaaGreatTpAll
import Derived.Laws.AppendOwn
import Derived.Below
import Derived.Test.YtgnffkahlniehaaGreatProg
import Derived.WalkKit
import Derived.WalkSpells
import Derived.Lib.LazyBuf
import Derived.Lib.Hide
import Derived.Laws.CopyOwn
import Derived.Lib.AppendZerosOnto
import Derived.Lib.Overlaps
import Derived.Shelf.Spec.SlicesInsert
import Derived.Shelf.Spec.SlicesInsertGrow
import Derived.Shelf.RegionOpenPlain
import Derived.Laws.Externs
import Derived.Deep.RegionLaw
import Derived.Lib.SliceRun
import Derived.Shelf.SlicesE.Delete
namespace Go.Proofs.Gs
open Go Go.RowKit

def RowAt (w : World) (k : Nat) (v : Value) (n : Nat) (xs : List Value) : Prop :=
  xs.length = n * k ∧ ∃ a cap, v = .slice a n cap ∧ n ≤ cap ∧ cap ≤ maxLen ∧ (n = 0 ∨ ∃ b off, a = some ⟨b, off, none⟩ ∧ b < w.heap.size ∧ ∀ j u, xs[j]? = some u → w.cell? ⟨b, off + j, none⟩ = some u)

theorem RowAt.nil (w : World) (k : Nat) : RowAt w k (.slice none 0 0) 0 [] := ⟨by simp, none, 0, rfl, Nat.le_refl _, Nat.zero_le _, .inl rfl⟩

theorem RowAt.below {w w' : World} {k n : Nat} {v : Value} {xs : List Value} (h : RowAt w k v n xs) (hb : Below w.heap.size w w') : RowAt w' k v n xs := by
  obtain ⟨h0, a, cap, h1, h2, h3, h4⟩ := h
  refine ⟨h0, a, cap, h1, h2, h3, ?_⟩
  rcases h4 with h4 | ⟨b, off, e, hb', hc⟩
  · exact .inl h4
  · exact .inr ⟨b, off, e, Nat.lt_of_lt_of_le hb' hb.size, fun j u hu => (hb.cell (show (⟨b, off + j, none⟩ : Addr).block < _ from hb')).trans (hc j u hu)⟩

theorem RowAt.of_owns {w : World} {B e k n : Nat} {v : Value} {xs : List Value} (h : w.ownsRow B e k v n xs) : RowAt w k v n xs := by
  refine ⟨h.1, ?_⟩
  rcases h.2 with ⟨rfl, rfl⟩ | ⟨g, cap, cur, rfl, _, hg, hn, hm, _, hx⟩
  · exact ⟨none, 0, rfl, Nat.le_refl _, Nat.zero_le _, .inl rfl⟩
  · refine ⟨_, cap, rfl, hn, hm, .inr ⟨g, 0, rfl, (Array.getElem?_eq_some_iff.1 hg).1, fun j u hu => ?_⟩⟩
    rw [Nat.zero_add]
    unfold World.cell?
    simp only [hg]
    rw [← hx, List.getElem?_take] at hu
    split at hu
    · simpa using hu
    · cases hu

theorem RowAt.of_strs {w : World} {v : Value} {L : List ByteArray} (h : Tp.StrsAt w v L) : RowAt w 1 v L.length (L.map Value.string) := by
  obtain ⟨a, cap, rfl, h1, h2, h3⟩ := h
  refine ⟨by simp, a, cap, rfl, h1, h2, ?_⟩
  rcases h3 with rfl | ⟨b, off, rfl, hc⟩
  · exact .inl rfl
  · by_cases h0 : L.length = 0
    · exact .inl h0
    · have hl : 0 < L.length := by omega
      refine .inr ⟨b, off, rfl, World.block_lt_of_cell? w _ (hc 0 L[0] (by simp [hl])), fun j u hu => ?_⟩
      rw [List.getElem?_map] at hu
      cases hx : L[j]? with
      | none => rw [hx] at hu; simp at hu
      | some x => rw [hx] at hu; simp at hu; subst hu; exact hc j x hx

theorem RowAt.strs {w : World} {v : Value} {L : List ByteArray} (h : RowAt w 1 v L.length (L.map Value.string)) : Tp.StrsAt w v L := by
  obtain ⟨_, a, cap, rfl, h1, h2, h3⟩ := h
  refine ⟨a, cap, rfl, h1, h2, ?_⟩
  rcases h3 with h3 | ⟨b, off, rfl, _, hc⟩
  · exact .inl (List.eq_nil_of_length_eq_zero h3)
  · exact .inr ⟨b, off, rfl, fun i x hx => hc i _ (by rw [List.getElem?_map, hx]; rfl)⟩

/-- Opened for a walk: nil, empty, or with an address. -/
theorem RowAt.cases {w : World} {k n : Nat} {v : Value} {xs : List Value} (h : RowAt w k v n xs) :
    (n = 0 ∧ xs = [] ∧ ∃ a cap, v = .slice a 0 cap ∧ cap ≤ 9223372036854775807) ∨
    (0 < n ∧ ∃ b off cap, v = .slice (some ⟨b, off, none⟩) n cap ∧ n ≤ cap ∧ cap ≤ 9223372036854775807 ∧ b < w.heap.size ∧ ∀ j u, xs[j]? = some u → w.cell? ⟨b, off + j, none⟩ = some u) := by
  obtain ⟨h0, a, cap, rfl, h1, h2, h3⟩ := h
  unfold maxLen at h2
  by_cases hn : n = 0
  · subst hn
    exact .inl ⟨rfl, List.eq_nil_of_length_eq_zero (by simpa using h0), a, cap, rfl, by omega⟩
  · rcases h3 with h3 | ⟨b, off, rfl, hb, hc⟩
    · exact absurd h3 hn
    · exact .inr ⟨by omega, b, off, cap, rfl, h1, by omega, hb, hc⟩
end Go.Proofs.Gs

/- Proved here: slices.Clone at []*crier/rettrie.node. -/
namespace Go.Proofs.YtgnffkahlniehaaGreat
open Go Go.RowKit Go.Proofs.Gs

theorem infoCloN : (Tryz.prog.info? 56).map (fun i => (i.zero, i.size, i.bytes)) = some (some (.pointer none), 1, 8) := by kernel_rfl

set_option maxHeartbeats 1000000 in
set_option maxRecDepth 100000 in
theorem cloneN_any {w : World} {v : Value} {n : Nat} {xs : List Value} (h : RowAt w 1 v n xs) (hn : n ≤ 1000000001) (h1 : ∀ u ∈ xs, u.oneCell' = true) :
    Calls Tryz.prog 56 #[v] w fun e w' => ∃ v', e = .returned v' ∧ w'.ownsRow w.heap.size 56 1 v' n xs ∧ Below w.heap.size w w' := by
  obtain ⟨i0, hi0, hz0, hz1, hz2⟩ := info_parts infoCloN
  have hnil := fun (W : World) (a : Option Addr) (l c : Nat) => Go.run_eql_slice_nil (P := Tryz.prog) W 58 56 a l c Tryz.underlying58
  have hnew : ∀ W : World, (W.alloc (.cells #[] 56)).ownsRow W.heap.size 56 1 (.slice (some ⟨W.heap.size, 0, none⟩) 0 0) 0 [] := fun W =>
    ⟨by simp, .inr ⟨W.heap.size, 0, #[], rfl, Nat.le_refl _, (MapKept.heap_alloc W _).1, Nat.le_refl _, Nat.zero_le _, by simp, by simp⟩⟩
  have HN := Lib.hid (hnew w)
  have H1 := Lib.hid h1
  have hxl := h.1
  rcases RowAt.cases h with ⟨rfl, rfl, a, cap, rfl, hcm⟩ | ⟨hpos, b, off, cap, rfl, hnc, hcm, hb, hc⟩
  · clear hnew h1 h hxl
    cases a with
    | none =>
      go_enter Tryz.func56, Tryz.ntmps56
      go_wp2_with fail
      go_ret
      exact ⟨_, rfl, ⟨by simp, .inl ⟨rfl, rfl⟩⟩, Below.refl _ _⟩
    | some ad =>
      go_enter Tryz.func56, Tryz.ntmps56
      go_wp2_with (at_builtin; refine wpList_append_own _ rfl _ _ 58 rfl w.heap.size 56 i0 (.pointer none) 1 8 Tryz.underlying58 hi0 hz0 hz1 hz2 rfl (by decide) _ _ _ rfl HN.out ad 0 cap [] rfl (by simp) (by simp) (by simp) ?c2 ?c3 ?c4 ?_)
      case c2 => exact Nat.zero_le _
      case c3 => omega
      case c4 => simp
      intro v' w1 hown1 hgrow _
      have H2 := Lib.hid hown1
      have H3 := Lib.hid hgrow
      clear hown1 hgrow
      go_wp2_with fail
      go_ret
      exact ⟨_, rfl, H2.out, ((Below.refl _ w).alloc (Nat.le_refl _) _).grown H3.out (by simp) (fun x hx => by simp [Value.ownBlock] at hx; omega)⟩
  · have hcb : ∀ j u, xs[j]? = some u → (w.alloc (.cells #[] 56)).cell? ((⟨b, off, none⟩ : Addr).add j) = some u := fun j u hu => by
      rw [Addr.add_lit]
      exact (World.cell?_of_block (w := w) (a := ⟨b, off + j, none⟩) (Below.heap_alloc w _ b hb)).trans (hc j u hu)
    have HC := Lib.hid hcb
    have HX := Lib.hid hxl
    have hm1 : ¬ n = 0 := by omega
    clear hnew h1 h hxl hcb hc
    go_enter Tryz.func56, Tryz.ntmps56
    go_wp2_with (at_builtin; refine wpList_append_own _ rfl _ _ 58 rfl w.heap.size 56 i0 (.pointer none) 1 8 Tryz.underlying58 hi0 hz0 hz1 hz2 rfl (by decide) _ _ _ rfl HN.out ⟨b, off, none⟩ n cap xs rfl HX.out HC.out H1.out ?c2 ?c3 ?c4 ?_)
    case c2 => unfold maxLen; omega
    case c3 => omega
    case c4 => simp
    intro v' w1 hown1 hgrow _
    have H2 := Lib.hid hown1
    have H3 := Lib.hid hgrow
    clear hown1 hgrow
    go_wp2_with fail
    go_ret
    have h2 := H2.out
    try rw [Nat.zero_add, List.nil_append] at h2
    exact ⟨_, rfl, h2, ((Below.refl _ w).alloc (Nat.le_refl _) _).grown H3.out (by simp) (fun x hx => by simp [Value.ownBlock] at hx; omega)⟩
end Go.Proofs.YtgnffkahlniehaaGreat

/- Proved here: slices.Clone at []string. -/
namespace Go.Proofs.YtgnffkahlniehaaGreat
open Go Go.RowKit Go.Proofs.Gs

theorem infoCloS : (Tryz.prog.info? 9).map (fun i => (i.zero, i.size, i.bytes)) = some (some (.string ByteArray.empty), 1, 16) := by kernel_rfl

set_option maxHeartbeats 1000000 in
set_option maxRecDepth 100000 in
theorem cloneS_any {w : World} {v : Value} {n : Nat} {xs : List Value} (h : RowAt w 1 v n xs) (hn : n ≤ 1000000001) (h1 : ∀ u ∈ xs, u.oneCell' = true) :
    Calls Tryz.prog 58 #[v] w fun e w' => ∃ v', e = .returned v' ∧ w'.ownsRow w.heap.size 9 1 v' n xs ∧ Below w.heap.size w w' := by
  obtain ⟨i0, hi0, hz0, hz1, hz2⟩ := info_parts infoCloS
  have hnil := fun (W : World) (a : Option Addr) (l c : Nat) => Go.run_eql_slice_nil (P := Tryz.prog) W 31 9 a l c Tryz.underlying31
  have hnew : ∀ W : World, (W.alloc (.cells #[] 9)).ownsRow W.heap.size 9 1 (.slice (some ⟨W.heap.size, 0, none⟩) 0 0) 0 [] := fun W =>
    ⟨by simp, .inr ⟨W.heap.size, 0, #[], rfl, Nat.le_refl _, (MapKept.heap_alloc W _).1, Nat.le_refl _, Nat.zero_le _, by simp, by simp⟩⟩
  have HN := Lib.hid (hnew w)
  have H1 := Lib.hid h1
  have hxl := h.1
  rcases RowAt.cases h with ⟨rfl, rfl, a, cap, rfl, hcm⟩ | ⟨hpos, b, off, cap, rfl, hnc, hcm, hb, hc⟩
  · clear hnew h1 h hxl
    cases a with
    | none =>
      go_enter Tryz.func58, Tryz.ntmps58
      go_wp2_with fail
      go_ret
      exact ⟨_, rfl, ⟨by simp, .inl ⟨rfl, rfl⟩⟩, Below.refl _ _⟩
    | some ad =>
      go_enter Tryz.func58, Tryz.ntmps58
      go_wp2_with (at_builtin; refine wpList_append_own _ rfl _ _ 31 rfl w.heap.size 9 i0 (.string ByteArray.empty) 1 16 Tryz.underlying31 hi0 hz0 hz1 hz2 rfl (by decide) _ _ _ rfl HN.out ad 0 cap [] rfl (by simp) (by simp) (by simp) ?c2 ?c3 ?c4 ?_)
      case c2 => exact Nat.zero_le _
      case c3 => omega
      case c4 => simp
      intro v' w1 hown1 hgrow _
      have H2 := Lib.hid hown1
      have H3 := Lib.hid hgrow
      clear hown1 hgrow
      go_wp2_with fail
      go_ret
      exact ⟨_, rfl, H2.out, ((Below.refl _ w).alloc (Nat.le_refl _) _).grown H3.out (by simp) (fun x hx => by simp [Value.ownBlock] at hx; omega)⟩
  · have hcb : ∀ j u, xs[j]? = some u → (w.alloc (.cells #[] 9)).cell? ((⟨b, off, none⟩ : Addr).add j) = some u := fun j u hu => by
      rw [Addr.add_lit]
      exact (World.cell?_of_block (w := w) (a := ⟨b, off + j, none⟩) (Below.heap_alloc w _ b hb)).trans (hc j u hu)
    have HC := Lib.hid hcb
    have HX := Lib.hid hxl
    have hm1 : ¬ n = 0 := by omega
    clear hnew h1 h hxl hcb hc
    go_enter Tryz.func58, Tryz.ntmps58
    go_wp2_with (at_builtin; refine wpList_append_own _ rfl _ _ 31 rfl w.heap.size 9 i0 (.string ByteArray.empty) 1 16 Tryz.underlying31 hi0 hz0 hz1 hz2 rfl (by decide) _ _ _ rfl HN.out ⟨b, off, none⟩ n cap xs rfl HX.out HC.out H1.out ?c2 ?c3 ?c4 ?_)
    case c2 => unfold maxLen; omega
    case c3 => omega
    case c4 => simp
    intro v' w1 hown1 hgrow _
    have H2 := Lib.hid hown1
    have H3 := Lib.hid hgrow
    clear hown1 hgrow
    go_wp2_with fail
    go_ret
    have h2 := H2.out
    try rw [Nat.zero_add, List.nil_append] at h2
    exact ⟨_, rfl, h2, ((Below.refl _ w).alloc (Nat.le_refl _) _).grown H3.out (by simp) (fun x hx => by simp [Value.ownBlock] at hx; omega)⟩
end Go.Proofs.YtgnffkahlniehaaGreat

/- Plain: a row of the call's own, its elements of k cells each: what a copy into it makes; cells laid over a part. No program in sight. -/
namespace Go.Proofs.Gs
open Go Go.RowKit

theorem gs_copy {P : Program} (w : World) (dT sT ty elem : TypeId) (k : Nat) (hu : P.underlying dT = some (.slice elem)) (hk : (P.info? elem).map (·.size) = some k) (g off dLen dCap : Nat) (sp : Addr) (sLen sCap : Nat) (cur : Array Value) (t : TypeId) (cs : List Value)
    (hg : w.heap[g]? = some (.cells cur t (0, 0))) (hn : cs.length = Nat.min sLen dLen * k) (hsrc : ∀ j v, cs[j]? = some v → w.cell? (sp.add j) = some v) (hfit : off + cs.length ≤ cur.size) (h1 : ∀ v ∈ cs, v.oneCell' = true) :
    (Builtin.copy_ #[dT, sT] ty #[.slice (some ⟨g, off, none⟩) dLen dCap, .slice (some sp) sLen sCap]).run P w = .ok (goInt (Nat.min sLen dLen)) (w.setRow g (splice cur.toList off cs).toArray) := by
  have hl := run_loadCells_list (P := P) w sp cs hsrc
  have hst := run_storeCells_at (P := P) g off t cs 0 cur w hg (by simpa using hfit) h1
  cases hq : P.info? elem with
  | none => simp [hq] at hk
  | some i =>
    have hi : i.size = k := by simpa [hq] using hk
    rw [hn] at hl
    have e : splice cur.toList off cs = cur.toList.take (off + 0) ++ cs ++ cur.toList.drop (off + 0 + cs.length) := by simp [splice]
    rw [e]
    simp only [Builtin.copy_, Sem.run_bind, run_underlying hu, Result.andThen_ok, sizeOf, typeInfo, List.getElem?_toArray, List.getElem?_cons_zero, List.getElem?_cons_succ]
    simp [Builtin.lenOf, Builtin.firstCells, hq, hi, hl, hst]

/-- A whole row set anew is owned. -/
theorem owns_setRow {w : World} {B e k g cap m : Nat} {cur : Array Value} {xs : List Value} (hg : w.heap[g]? = some (.cells cur e (0, 0))) (hB : B ≤ g) (hc : cap ≤ maxLen) (cs : List Value) (hs : cs.length = cap * k) (hm : m ≤ cap) (hx : cs.take (m * k) = xs) :
    (w.setRow g cs.toArray).ownsRow B e k (.slice (some ⟨g, 0, none⟩) m cap) m xs := by
  refine ⟨by rw [← hx, List.length_take, hs]; exact Nat.min_eq_left (Nat.mul_le_mul_right k hm), .inr ⟨g, cap, cs.toArray, rfl, hB, setRow_heap w g cur cs.toArray e (0, 0) hg, hm, hc, by simpa using hs, by simpa using hx⟩⟩

theorem grown_setRow (w : World) (g : Nat) (cs : Array Value) : w.grownBy (w.setRow g cs) (some g) :=
  ⟨rfl, rfl, rfl, by simp [World.setRow], fun k _ hne => setRow_other w g k cs (fun e => hne (by rw [e]))⟩
theorem gs_shift {cur xs new : List Value} {a k N : Nat} (hx : cur.take N = xs) (ha : a ≤ N) (hk : new.length = k) (hN : N + k ≤ cur.length) :
    (splice (splice cur (a + k) (xs.drop a)) a new).take (N + k) = xs.take a ++ new ++ xs.drop a ∧ (splice (splice cur (a + k) (xs.drop a)) a new).length = cur.length := by
  have hxl : xs.length = N := by rw [← hx, List.length_take]; omega
  have hdl : (xs.drop a).length = N - a := by rw [List.length_drop, hxl]
  have e1 : splice cur (a + k) (xs.drop a) = cur.take (a + k) ++ (xs.drop a ++ cur.drop (N + k)) := by
    unfold splice; rw [hdl, show a + k + (N - a) = N + k by omega]
  have l1 : (cur.take (a + k)).length = a + k := by rw [List.length_take]; omega
  have e2 : splice (splice cur (a + k) (xs.drop a)) a new = xs.take a ++ (new ++ (xs.drop a ++ cur.drop (N + k))) := by
    rw [e1]
    unfold splice
    rw [hk, List.take_append_of_le_length (by omega), List.take_take, Nat.min_eq_left (by omega)]
    congr 1
    · rw [← hx, List.take_take, Nat.min_eq_left ha]
    · congr 1
      rw [List.drop_append_of_le_length (by omega), List.drop_of_length_le (by omega), List.nil_append]
  have l2 : (xs.take a).length = a := by rw [List.length_take]; omega
  refine ⟨?_, ?_⟩
  · rw [e2, ← List.append_assoc, ← List.append_assoc, List.take_append_of_le_length (by simp only [List.length_append, l2, hk, hdl]; omega), List.take_of_length_le (by simp only [List.length_append, l2, hk, hdl]; omega)]
  · rw [e2]; simp only [List.length_append, l2, hk, hdl, List.length_drop]; omega

theorem gs_setCells (P : Program) {w : World} {g o : Nat} {cur : Array Value} {t : TypeId} {vs : List Value} (hg : w.heap[g]? = some (.cells cur t (0, 0))) (hl : o + vs.length ≤ cur.size) (h1 : ∀ v ∈ vs, v.oneCell' = true) :
    w.setCells g o vs = w.setRow g (splice cur.toList o vs).toArray := by
  have hc : ∀ j, j < vs.length → (w.cell? ⟨g, o + 0 + j, none⟩).isSome = true := fun j hj => by
    unfold World.cell?
    simp only [hg]
    rw [Array.getElem?_eq_getElem (by omega)]
    rfl
  have e1 := run_storeCells_cells (P := P) g o vs 0 w hc (fun j _ => by simp [World.frozen?, hg]) h1
  have e2 := run_storeCells_at (P := P) g o t vs 0 cur w hg (by simpa using hl) h1
  rw [e1] at e2
  injection e2 with _ e2
  rw [Nat.add_zero] at e2
  rw [e2]
  unfold splice
  rw [List.append_assoc]

theorem gs_fresh {cur xs new : List Value} {a k N : Nat} (hl : N + k ≤ cur.length) (hx : cur.take a = xs.take a) (ha : a ≤ N) (hxl : xs.length = N) (hk : new.length = k) :
    (splice (splice cur a new) (a + k) (xs.drop a)).take (N + k) = xs.take a ++ new ++ xs.drop a ∧ (splice (splice cur a new) (a + k) (xs.drop a)).length = cur.length := by
  have hdl : (xs.drop a).length = N - a := by rw [List.length_drop, hxl]
  have l2 : (xs.take a).length = a := by rw [List.length_take]; omega
  have e1 : splice cur a new = (xs.take a ++ new) ++ cur.drop (a + k) := by unfold splice; rw [hx, hk, List.append_assoc]
  have l3 : (xs.take a ++ new).length = a + k := by rw [List.length_append, l2, hk]
  have e2 : splice (splice cur a new) (a + k) (xs.drop a) = (xs.take a ++ new ++ xs.drop a) ++ cur.drop (N + k) := by
    have d1 : (xs.take a ++ new).drop (a + k + (N - a)) = [] := List.drop_of_length_le (by rw [l3]; omega)
    have t1 : ((xs.take a ++ new) ++ cur.drop (a + k)).take (a + k) = xs.take a ++ new := List.take_left' l3
    rw [e1]
    unfold splice
    rw [hdl, t1, List.drop_append, d1, List.nil_append, List.drop_drop, l3, List.append_assoc (xs.take a ++ new)]
    congr 3
    omega
  have l4 : (xs.take a ++ new ++ xs.drop a).length = N + k := by rw [List.length_append, l3, hdl]; omega
  rw [e2]
  refine ⟨List.take_left' l4, ?_⟩
  rw [List.length_append, l4, List.length_drop]
  omega
end Go.Proofs.Gs

/- Proved here: slices.Insert of one element into a row of the call's own ([]*crier/rettrie.node). -/
namespace Go.Proofs.YtgnffkahlniehaaGreat
open Go Go.RowKit Go.Proofs.Gs Go.Lib Go.Shelf

theorem infoInsN : (Tryz.prog.info? 56).map (fun i => (i.zero, i.size, i.bytes)) = some (some (.pointer none), 1, 8) := by kernel_rfl

set_option maxHeartbeats 4000000 in
set_option maxRecDepth 100000 in
theorem insN_any {w : World} {B : Nat} {v : Value} {n i : Nat} {xs new : List Value} {vb : Nat} (hown : w.ownsRow B 56 1 v n xs) (hB : B ≤ w.heap.size) (hi : i ≤ n) (hn : n ≤ 1000000000)
    (hvb : w.heap[vb]? = some (.cells new.toArray 56 (0, 0))) (hnl : new.length = 1) (h1v : ∀ u ∈ new, u.oneCell' = true) (hvo : v.ownBlock ≠ some vb) (h1x : ∀ u ∈ xs, u.oneCell' = true) :
    Calls Tryz.prog 57 #[v, .int .i64 i, .slice (some ⟨vb, 0, none⟩) 1 1] w fun e w' =>
      ∃ v', e = .returned v' ∧ w'.ownsRow B 56 1 v' (n + 1) (xs.take (i * 1) ++ new ++ xs.drop (i * 1)) ∧ w.grownBy w' v.ownBlock := by
  obtain ⟨i0, hi0, hz0, hz1, hz2⟩ := info_parts infoInsN
  have hsz : (Tryz.prog.info? 56).map (·.size) = some 1 := by rw [hi0]; simp [hz1]
  have hxl := hown.1
  have hvc : ∀ j u, new[j]? = some u → w.cell? ((⟨vb, 0, none⟩ : Addr).add j) = some u := fun j u hu => by
    rw [Addr.add_lit, Nat.zero_add]
    unfold World.cell?
    simp only [hvb]
    simpa using hu
  by_cases hin : i = n
  · subst hin
    have hend : xs.take (i * 1) ++ new ++ xs.drop (i * 1) = xs ++ new := by rw [← hxl, List.take_length, List.drop_length, List.append_nil]
    rw [hend]
    have hi63 : (i : Int) ≤ 9223372036854775807 := by omega
    have hz : ¬ ((1 : Int) = 0) := by omega
    have HC := Lib.hid hvc
    have HNL := Lib.hid (show new.length = 1 * 1 from by rw [hnl])
    have HO := Lib.hid hown
    have h2 := hown.2
    clear hvc hxl hvb hvo hnl h1x hend hown
    rcases h2 with ⟨rfl, rfl⟩ | ⟨g, cap, cur, rfl, _, _, hic, hcm, _⟩
    · go_enter Tryz.func57, Tryz.ntmps57
      go_wp2_with (at_builtin; refine wpList_append_own _ rfl _ _ 58 rfl B 56 i0 (.pointer none) 1 8 Tryz.underlying58 hi0 hz0 hz1 hz2 rfl (by decide) _ _ _ rfl HO.out ⟨vb, 0, none⟩ 1 1 new rfl HNL.out HC.out h1v ?c2 ?c3 ?c4 ?_)
      case c2 => unfold maxLen; omega
      case c3 => omega
      case c4 => exact hB
      intro v' w1 hown1 hgrow _
      have H1 := Lib.hid hown1
      have H2 := Lib.hid hgrow
      clear hown1 hgrow
      go_wp2_with fail
      go_ret
      exact ⟨_, rfl, H1.out, H2.out⟩
    · unfold maxLen at hcm
      by_cases hci : cap = i
      · subst hci
        go_enter Tryz.func57, Tryz.ntmps57
        go_wp2_with (at_builtin; refine wpList_append_own _ rfl _ _ 58 rfl B 56 i0 (.pointer none) 1 8 Tryz.underlying58 hi0 hz0 hz1 hz2 rfl (by decide) _ _ _ rfl HO.out ⟨vb, 0, none⟩ 1 1 new rfl HNL.out HC.out h1v ?c2 ?c3 ?c4 ?_)
        case c2 => unfold maxLen; omega
        case c3 => omega
        case c4 => exact hB
        intro v' w1 hown1 hgrow _
        have H1 := Lib.hid hown1
        have H2 := Lib.hid hgrow
        clear hown1 hgrow
        go_wp2_with fail
        go_ret
        exact ⟨_, rfl, H1.out, H2.out⟩
      · have hci2 : i < cap := by omega
        go_enter Tryz.func57, Tryz.ntmps57
        go_wp2_with (at_builtin; refine wpList_append_own _ rfl _ _ 58 rfl B 56 i0 (.pointer none) 1 8 Tryz.underlying58 hi0 hz0 hz1 hz2 rfl (by decide) _ _ _ rfl HO.out ⟨vb, 0, none⟩ 1 1 new rfl HNL.out HC.out h1v ?c2 ?c3 ?c4 ?_)
        case c2 => unfold maxLen; omega
        case c3 => omega
        case c4 => exact hB
        intro v' w1 hown1 hgrow _
        have H1 := Lib.hid hown1
        have H2 := Lib.hid hgrow
        clear hown1 hgrow
        go_wp2_with fail
        go_ret
        exact ⟨_, rfl, H1.out, H2.out⟩
  obtain ⟨g, cap, cur, rfl, hBg, hg, hnc, hcm, hcs, hct⟩ : ∃ g cap cur, v = .slice (some ⟨g, 0, none⟩) n cap ∧ B ≤ g ∧ w.heap[g]? = some (.cells cur 56 (0, 0)) ∧ n ≤ cap ∧ cap ≤ maxLen ∧ cur.size = cap * 1 ∧ cur.toList.take (n * 1) = xs := by
    rcases hown.2 with ⟨rfl, rfl⟩ | h
    · omega
    · exact h
  have hlt : i < n := by omega
  have hgv : g ≠ vb := fun e => hvo (by rw [e]; rfl)
  have hbw : g < w.heap.size := (Array.getElem?_eq_some_iff.1 hg).1
  have hvw : vb < w.heap.size := (Array.getElem?_eq_some_iff.1 hvb).1
  have hcl : cur.toList.length = cap * 1 := by simpa using hcs
  unfold maxLen at hcm
  have hone : ¬ ((1 : Int) = 0) := by omega
  have hine : ¬ ((i : Int) = (n : Int)) := by omega
  have hNK : n + 1 ≤ 1000000001 * 1 := by omega
  simp only [Nat.mul_one] at hct hcs hcl hxl
  have mixed : Tryz.prog.follows .mixedOrders = true := by kernel_rfl
  have hik : i ≤ n := by omega
  by_cases hroom : n + 1 ≤ cap
  · -- in place
    have hroom' : ¬ ((cap : Int) < (n : Int) + 1) := by omega
    have hcapk : n + 1 ≤ cap := by omega
    have hdl : (xs.drop (i)).length = n - i := by rw [List.length_drop, hxl]
    have hsrc : ∀ j u, (xs.drop (i))[j]? = some u → w.drew.cell? ((⟨g, i, none⟩ : Addr).add j) = some u := fun j u hu => by
      rw [Addr.add_lit]
      show w.cell? _ = _
      unfold World.cell?
      simp only [hg]
      rw [List.getElem?_drop, ← hct, List.getElem?_take] at hu
      split at hu
      · simpa using hu
      · cases hu
    have hov : ∀ lb cb, (callFunc 80 #[.slice (some ⟨vb, 0, none⟩) 1 1, .slice (some ⟨g, i + 1, none⟩) lb cb]).run Tryz.prog w = .ok (.value (.bool false)) w := fun lb cb => by
      rw [run_callFunc_extern Tryz.func80 (by kernel_rfl) (by kernel_rfl) (by kernel_rfl) (e := Extern.SlicesOverlaps.overlaps #[58, 58] #[4]) (by kernel_rfl),
        Lib.run_overlaps_apart w 58 4 56 Tryz.underlying58 1 Tryz.sizeOf56 ⟨vb, 0, none⟩ ⟨g, i + 1, none⟩ 1 1 lb cb (Ne.symm hgv) 56 56 new.toArray.size cur.size (by simp [World.shape?, hvb]) (by simp [World.shape?, hg]) (by omega) (by simp [World.frozen?, hvb]) (by simp [World.frozen?, hvb])]
      rfl
    obtain ⟨hsh, hshl⟩ := gs_shift (cur := cur.toList) (xs := xs) (new := new) (a := i) (k := 1) (N := n) hct hik hnl (by omega)
    have hl1 : (splice cur.toList (i + 1) (xs.drop (i))).length = cap := by rw [length_splice _ _ _ (by rw [hdl, hcl]; omega)]; exact hcl
    obtain ⟨W1, hW1⟩ : ∃ W1, W1 = w.drew.setRow g (splice cur.toList (i + 1) (xs.drop (i))).toArray := ⟨_, rfl⟩
    have hcp1 : ∀ ty dc sc, (Builtin.copy_ #[58, 58] ty #[.slice (some ⟨g, i + 1, none⟩) (n - i) dc, .slice (some ⟨g, i, none⟩) (n + 1 - i) sc]).run Tryz.prog w.drew = .ok (goInt ((n - i : Nat) : Int)) W1 := fun ty dc sc => by
      have h := gs_copy (P := Tryz.prog) w.drew 58 58 ty 56 1 Tryz.underlying58 hsz g (i + 1) (n - i) dc ⟨g, i, none⟩ (n + 1 - i) sc cur 56 (xs.drop (i)) hg (by rw [hdl]; simp only [Nat.min_def]; split <;> omega) hsrc (by rw [hdl, hcs]; omega) (fun u hu => h1x u (List.mem_of_mem_drop hu))
      have e1 : Nat.min (n + 1 - i) (n - i) = n - i := by simp only [Nat.min_def]; split <;> omega
      rw [e1, ← hW1] at h
      exact h
    have hg1 : W1.heap[g]? = some (.cells (splice cur.toList (i + 1) (xs.drop (i))).toArray 56 (0, 0)) := by rw [hW1]; exact setRow_heap w.drew g cur _ _ _ hg
    have hv1 : W1.heap[vb]? = some (.cells new.toArray 56 (0, 0)) := by rw [hW1]; exact (setRow_other w.drew g vb _ (Ne.symm hgv)).trans hvb
    have hgr1 : w.grownBy W1 (some g) := by rw [hW1]; have h := grown_setRow w.drew g (splice cur.toList (i + 1) (xs.drop (i))).toArray; exact ⟨h.os, h.tape, h.output, h.size, h.block⟩
    generalize hcur1 : splice cur.toList (i + 1) (xs.drop (i)) = cur1 at *
    have hcp2 : ∀ (W : World), W.heap = W1.heap → ∀ ty dc, (Builtin.copy_ #[58, 58] ty #[.slice (some ⟨g, i, none⟩) (n + 1 - i) dc, .slice (some ⟨vb, 0, none⟩) 1 1]).run Tryz.prog W = .ok (goInt 1) (W.setRow g (splice cur1 (i) new).toArray) := fun W hW ty dc => by
      have h := gs_copy (P := Tryz.prog) W 58 58 ty 56 1 Tryz.underlying58 hsz g (i) (n + 1 - i) dc ⟨vb, 0, none⟩ 1 1 cur1.toArray 56 new (by rw [hW]; exact hg1) (by rw [hnl]; simp only [Nat.min_def]; split <;> omega)
        (fun j u hu => by
          rw [Addr.add_lit, Nat.zero_add]
          unfold World.cell?
          rw [hW]
          simp only [hv1]
          simpa using hu) (by rw [hnl]; simp; omega) h1v
      have e1 : Nat.min 1 (n + 1 - i) = 1 := by simp only [Nat.min_def]; split <;> omega
      rw [e1] at h
      exact h
    have hw1 : IntKind.i64.wrap ((i : Int) + 1) = (i : Int) + 1 := by rw [IntKind.wrap_i64]; omega
    have hb1 : (0 : Int) ≤ (i : Int) + 1 := by omega
    have htn : ((i : Int) + 1).toNat = i + 1 := by omega
    have hb2 : ¬ (cap = i + 1) := by omega
    have hb3 : (i : Int) ≤ (n : Int) + 1 := by omega
    have hb4 : ¬ (cap = i) := by omega
    have HG1 := Lib.hid hg1
    have HGR := Lib.hid hgr1
    have HSH := Lib.hid hsh
    have HL := Lib.hid hshl
    have HCP2 := Lib.hid hcp2
    have HCP1 := Lib.hid hcp1
    have HCL := Lib.hid hcl
    clear hg1 hgr1 hsh hshl hcp2 hcp1 hcl hct hcs hg hvb hvc hxl hown hW1 hcur1 hl1 hsrc hdl hv1 hvo h1x h1v hnl hsz hi0 hz0 hNK hik hcapk
    go_enter Tryz.func57, Tryz.ntmps57
    go_wp2_with (simp only [hov])
    go_region_law (refine step_copy_runI rfl _ _ 58 58 rfl (.slice (some ⟨g, i + 1, none⟩) (n - i) (cap - (i + 1))) (.slice (some ⟨g, i, none⟩) (n + 1 - i) (cap - i)) (by simp [Act.eval, Act.put]) (by simp [Act.eval, Act.put]) (HCP1.out _ _ _) ?_)
    have hc2 := HCP2.out W1 rfl
    go_wp2_with fail
    go_ret
    refine ⟨_, rfl, owns_setRow HG1.out hBg (by unfold maxLen; omega) _ (by rw [HL.out, HCL.out]; omega) hroom (by first | (rw [show (n + 1) * 1 = n + 1 by omega]; exact HSH.out) | (simp only [Nat.mul_one]; exact HSH.out)), ?_⟩
    have h2 := grown_setRow W1 g (splice cur1 (i) new).toArray
    exact ⟨h2.os.trans HGR.out.os, h2.tape.trans HGR.out.tape, h2.output.trans HGR.out.output, Nat.le_trans HGR.out.size h2.size, fun x hx hne => (h2.block x (Nat.lt_of_lt_of_le hx HGR.out.size) hne).trans (HGR.out.block x hx hne)⟩
  · -- a new row
    have hcn : n = cap := by omega
    subst hcn
    have hgt : (n : Int) < (n : Int) + 1 := by omega
    have hkk : (n : Int) + 1 - (i : Int) = ((n + 1 - i : Nat) : Int) := by omega
    have hikn : i + (n + 1 - i) = n + 1 := by omega
    have hbig : (n + 1) * 8 ≤ 140737488355328 := by omega
    have hcell : ∀ j u, xs[j]? = some u → w.cell? ⟨g, 0 + j, none⟩ = some u := fun j u hu => by
      rw [Nat.zero_add]
      unfold World.cell?
      simp only [hg]
      rw [← hct, List.getElem?_take] at hu
      split at hu
      · simpa using hu
      · cases hu
    have htl : (xs.take (i)).length = i := by rw [List.length_take]; omega
    have hold : (Builtin.firstCells i0.size i (.slice (some ⟨g, 0, none⟩) i n)).run Tryz.prog w.drew = .ok (xs.take (i)).toArray w.drew := by
      rw [hz1]
      exact run_firstCells_some w.drew 1 i ⟨g, 0, none⟩ i n (xs.take (i)) (by rw [htl]; omega) (fun j u hj => by
        rw [Addr.add_lit]
        rw [List.getElem?_take] at hj
        split at hj
        · exact hcell j u hj
        · cases hj)
    obtain ⟨G, hG⟩ : ∃ G, G = grownCap w (n + 1) n 56 := ⟨_, rfl⟩
    obtain ⟨ROW, hROW⟩ : ∃ ROW : Array Value, ROW = (xs.take (i)).toArray ++ Builtin.zeroCells (.pointer none : Value).cells (n + 1 - i) ++ Builtin.zeroCells (.pointer none : Value).cells (G - (n + 1)) := ⟨_, rfl⟩
    have hrz : ∀ ty, (Builtin.append_ #[58, 3] ty #[.slice (some ⟨g, 0, none⟩) i n, .int .i64 ((n : Int) + 1 - (i : Int))]).run Tryz.prog w = .ok (.slice (some ⟨w.heap.size, 0, none⟩) (n + 1) G) (w.drew.alloc (.cells ROW 56)) := fun ty => by
      have h := Lib.run_append_grow_zeros w 58 3 ty 56 i0 (.pointer none) .i64 .i64 Tryz.underlying58 Tryz.underlying3 hi0 hz0 (some ⟨g, 0, none⟩) i n (xs.take (i)) hold (n + 1 - i) (by omega) (by omega) (by omega) (by omega) (by rw [hz2]; omega) (by rw [hz2, hikn]; exact growslice_fits (by omega) hbig)
      rw [hikn, ← hG, ← hROW] at h
      rw [hkk]
      exact h
    have hGn : n + 1 ≤ G := by rw [hG]; exact grownCap_ge w _ _ _
    have hG63 : G ≤ 9223372036854775807 := by
      have := grownCap_le_maxLen w (n + 1) n 56 (by unfold maxLen; omega)
      rw [← hG] at this
      unfold maxLen at this
      omega
    have hRl : ROW.size = G := by
      rw [hROW]
      simp [Builtin.zeroCells, Value.cells]
      omega
    have hRt : ROW.toList.take (i) = xs.take (i) := by
      rw [hROW, Array.toList_append, Array.toList_append, List.append_assoc]
      exact List.take_left' htl
    obtain ⟨W1, hW1⟩ : ∃ W1, W1 = w.drew.alloc (.cells ROW 56) := ⟨_, rfl⟩
    have hg1 : W1.heap[w.heap.size]? = some (.cells ROW 56 (0, 0)) := by rw [hW1]; exact (MapKept.heap_alloc w.drew _).1
    have hgr1 : w.grownBy W1 none := by
      rw [hW1]
      exact ⟨rfl, rfl, rfl, by simp, fun x hx _ => Below.heap_alloc w.drew _ x hx⟩
    have hv1 : W1.heap[vb]? = some (.cells new.toArray 56 (0, 0)) := (hgr1.block vb hvw (by simp)).trans hvb
    have hs1 : W1.heap[g]? = some (.cells cur 56 (0, 0)) := (hgr1.block g hbw (by simp)).trans hg
    obtain ⟨hsh, hshl⟩ := gs_fresh (cur := ROW.toList) (xs := xs) (new := new) (a := i) (k := 1) (N := n) (by rw [Array.length_toList, hRl]; omega) hRt hik hxl hnl
    obtain ⟨R1, hR1⟩ : ∃ R1, R1 = splice ROW.toList (i) new := ⟨_, rfl⟩
    have hR1l : R1.length = G := by rw [hR1, length_splice _ _ _ (by rw [hnl, show ROW.toList.length = ROW.size from by simp, hRl]; omega), show ROW.toList.length = ROW.size from by simp, hRl]
    rw [← hR1] at hsh hshl
    have hcpA : ∀ ty dc, (Builtin.copy_ #[58, 58] ty #[.slice (some ⟨w.heap.size, i, none⟩) (n + 1 - i) dc, .slice (some ⟨vb, 0, none⟩) 1 1]).run Tryz.prog W1 = .ok (goInt 1) (W1.setRow w.heap.size R1.toArray) := fun ty dc => by
      have h := gs_copy (P := Tryz.prog) W1 58 58 ty 56 1 Tryz.underlying58 hsz w.heap.size (i) (n + 1 - i) dc ⟨vb, 0, none⟩ 1 1 ROW 56 new hg1 (by rw [hnl]; simp only [Nat.min_def]; split <;> omega)
        (fun j u hu => by
          rw [Addr.add_lit, Nat.zero_add]
          unfold World.cell?
          simp only [hv1]
          simpa using hu) (by rw [hnl, hRl]; omega) h1v
      have e1 : Nat.min 1 (n + 1 - i) = 1 := by simp only [Nat.min_def]; split <;> omega
      rw [e1, ← hR1] at h
      exact h
    obtain ⟨W2, hW2⟩ : ∃ W2, W2 = W1.setRow w.heap.size R1.toArray := ⟨_, rfl⟩
    rw [← hW2] at hcpA
    have hg2 : W2.heap[w.heap.size]? = some (.cells R1.toArray 56 (0, 0)) := by rw [hW2]; exact setRow_heap W1 w.heap.size ROW _ _ _ hg1
    have hs2 : W2.heap[g]? = some (.cells cur 56 (0, 0)) := by rw [hW2]; exact (setRow_other W1 w.heap.size g _ (by omega)).trans hs1
    have hgr2 : w.grownBy W2 none := by
      rw [hW2]
      exact ⟨hgr1.os, hgr1.tape, hgr1.output, by simpa [World.setRow] using hgr1.size, fun x hx hne => (setRow_other W1 w.heap.size x _ (by omega)).trans (hgr1.block x hx hne)⟩
    have hdl : (xs.drop (i)).length = n - i := by rw [List.length_drop, hxl]
    have hcpB : ∀ ty dc sc, (Builtin.copy_ #[58, 58] ty #[.slice (some ⟨w.heap.size, i + 1, none⟩) (n - i) dc, .slice (some ⟨g, i, none⟩) (n - i) sc]).run Tryz.prog W2.drew = .ok (goInt ((n - i : Nat) : Int)) (W2.drew.setRow w.heap.size (splice R1 (i + 1) (xs.drop (i))).toArray) := fun ty dc sc => by
      have h := gs_copy (P := Tryz.prog) W2.drew 58 58 ty 56 1 Tryz.underlying58 hsz w.heap.size (i + 1) (n - i) dc ⟨g, i, none⟩ (n - i) sc R1.toArray 56 (xs.drop (i)) hg2 (by rw [hdl]; simp only [Nat.min_def]; split <;> omega)
        (fun j u hu => by
          rw [Addr.add_lit]
          show W2.cell? _ = _
          rw [List.getElem?_drop] at hu
          have := hcell _ u hu
          rw [Nat.zero_add] at this
          rw [← this]
          exact World.cell?_of_block (w := w) (a := ⟨g, i + j, none⟩) (hgr2.block g hbw (by simp))) (by rw [hdl]; simp; omega) (fun u hu => h1x u (List.mem_of_mem_drop hu))
      have e1 : Nat.min (n - i) (n - i) = n - i := by simp only [Nat.min_def]; split <;> omega
      rw [e1] at h
      exact h
    have hw1 : IntKind.i64.wrap ((i : Int) + 1) = (i : Int) + 1 := by rw [IntKind.wrap_i64]; omega
    have hb1 : (0 : Int) ≤ (i : Int) + 1 := by omega
    have htn : ((i : Int) + 1).toNat = i + 1 := by omega
    have hb3 : (i : Int) ≤ (n : Int) := by omega
    have hGi : ¬ (G = i) := by omega
    have hGim : ¬ (G = i + 1) := by omega
    have hci : ¬ (n = i) := by omega
    have HG2 := Lib.hid hg2
    have HGR := Lib.hid hgr2
    have HSH := Lib.hid hsh
    have HL := Lib.hid hshl
    have HRL := Lib.hid hRl
    have HCPB := Lib.hid hcpB
    have HWB := Lib.hid hB
    rw [← hW1] at hrz
    clear hg1 hgr1 hv1 hs1 hg2 hgr2 hs2 hsh hshl hcpB hcl hct hcs hg hvb hvc hxl hown hW1 hW2 hR1 hR1l hROW hRl hRt hG hdl hvo h1x h1v hnl hsz hi0 hz0 hNK hik hold htl hcell hkk hikn hbig
    go_enter Tryz.func57, Tryz.ntmps57
    go_wp2_with (at_builtin; refine Lib.wpList_append_run _ rfl _ _ _ _ rfl _ _ rfl rfl _ _ (hrz _) ?_)
    clear hcpA
    go_region_law (refine step_copy_runI rfl _ _ 58 58 rfl (.slice (some ⟨w.heap.size, i + 1, none⟩) (n - i) (G - (i + 1))) (.slice (some ⟨g, i, none⟩) (n - i) (n - i)) (by simp [Act.eval, Act.put]) (by simp [Act.eval, Act.put]) (HCPB.out _ _ _) ?_)
    go_wp2_with fail
    go_ret
    refine ⟨_, rfl, owns_setRow HG2.out HWB.out (by unfold maxLen; omega) _ (by rw [HL.out, show ROW.toList.length = ROW.size from by simp, HRL.out]; omega) hGn (by first | (rw [show (n + 1) * 1 = n + 1 by omega]; exact HSH.out) | (simp only [Nat.mul_one]; exact HSH.out)), ?_⟩
    have h2 := grown_setRow W2.drew w.heap.size (splice R1 (i + 1) (xs.drop (i))).toArray
    exact ⟨h2.os.trans HGR.out.os, h2.tape.trans HGR.out.tape, h2.output.trans HGR.out.output, Nat.le_trans HGR.out.size h2.size, fun x hx hne => (h2.block x (Nat.lt_of_lt_of_le hx HGR.out.size) (by simp; omega)).trans (HGR.out.block x hx (by simp))⟩
end Go.Proofs.YtgnffkahlniehaaGreat

/- Proved here: slices.Clone at []byte. -/
namespace Go.Proofs.YtgnffkahlniehaaGreat
open Go Go.RowKit Go.Proofs.Gs

theorem infoCloB : (Tryz.prog.info? 5).map (fun i => (i.zero, i.size, i.bytes)) = some (some (.int .u8 0), 1, 1) := by kernel_rfl

set_option maxHeartbeats 1000000 in
set_option maxRecDepth 100000 in
theorem cloneB_any {w : World} {v : Value} {n : Nat} {xs : List Value} (h : RowAt w 1 v n xs) (hn : n ≤ 1000000001) (h1 : ∀ u ∈ xs, u.oneCell' = true) :
    Calls Tryz.prog 53 #[v] w fun e w' => ∃ v', e = .returned v' ∧ w'.ownsRow w.heap.size 5 1 v' n xs ∧ Below w.heap.size w w' := by
  obtain ⟨i0, hi0, hz0, hz1, hz2⟩ := info_parts infoCloB
  have hnil := fun (W : World) (a : Option Addr) (l c : Nat) => Go.run_eql_slice_nil (P := Tryz.prog) W 34 5 a l c Tryz.underlying34
  have hnew : ∀ W : World, (W.alloc (.cells #[] 5)).ownsRow W.heap.size 5 1 (.slice (some ⟨W.heap.size, 0, none⟩) 0 0) 0 [] := fun W =>
    ⟨by simp, .inr ⟨W.heap.size, 0, #[], rfl, Nat.le_refl _, (MapKept.heap_alloc W _).1, Nat.le_refl _, Nat.zero_le _, by simp, by simp⟩⟩
  have HN := Lib.hid (hnew w)
  have H1 := Lib.hid h1
  have hxl := h.1
  rcases RowAt.cases h with ⟨rfl, rfl, a, cap, rfl, hcm⟩ | ⟨hpos, b, off, cap, rfl, hnc, hcm, hb, hc⟩
  · clear hnew h1 h hxl
    cases a with
    | none =>
      go_enter Tryz.func53, Tryz.ntmps53
      go_wp2_with fail
      go_ret
      exact ⟨_, rfl, ⟨by simp, .inl ⟨rfl, rfl⟩⟩, Below.refl _ _⟩
    | some ad =>
      go_enter Tryz.func53, Tryz.ntmps53
      go_wp2_with (at_builtin; refine wpList_append_own _ rfl _ _ 34 rfl w.heap.size 5 i0 (.int .u8 0) 1 1 Tryz.underlying34 hi0 hz0 hz1 hz2 rfl (by decide) _ _ _ rfl HN.out ad 0 cap [] rfl (by simp) (by simp) (by simp) ?c2 ?c3 ?c4 ?_)
      case c2 => exact Nat.zero_le _
      case c3 => omega
      case c4 => simp
      intro v' w1 hown1 hgrow _
      have H2 := Lib.hid hown1
      have H3 := Lib.hid hgrow
      clear hown1 hgrow
      go_wp2_with fail
      go_ret
      exact ⟨_, rfl, H2.out, ((Below.refl _ w).alloc (Nat.le_refl _) _).grown H3.out (by simp) (fun x hx => by simp [Value.ownBlock] at hx; omega)⟩
  · have hcb : ∀ j u, xs[j]? = some u → (w.alloc (.cells #[] 5)).cell? ((⟨b, off, none⟩ : Addr).add j) = some u := fun j u hu => by
      rw [Addr.add_lit]
      exact (World.cell?_of_block (w := w) (a := ⟨b, off + j, none⟩) (Below.heap_alloc w _ b hb)).trans (hc j u hu)
    have HC := Lib.hid hcb
    have HX := Lib.hid hxl
    have hm1 : ¬ n = 0 := by omega
    clear hnew h1 h hxl hcb hc
    go_enter Tryz.func53, Tryz.ntmps53
    go_wp2_with (at_builtin; refine wpList_append_own _ rfl _ _ 34 rfl w.heap.size 5 i0 (.int .u8 0) 1 1 Tryz.underlying34 hi0 hz0 hz1 hz2 rfl (by decide) _ _ _ rfl HN.out ⟨b, off, none⟩ n cap xs rfl HX.out HC.out H1.out ?c2 ?c3 ?c4 ?_)
    case c2 => unfold maxLen; omega
    case c3 => omega
    case c4 => simp
    intro v' w1 hown1 hgrow _
    have H2 := Lib.hid hown1
    have H3 := Lib.hid hgrow
    clear hown1 hgrow
    go_wp2_with fail
    go_ret
    have h2 := H2.out
    try rw [Nat.zero_add, List.nil_append] at h2
    exact ⟨_, rfl, h2, ((Below.refl _ w).alloc (Nat.le_refl _) _).grown H3.out (by simp) (fun x hx => by simp [Value.ownBlock] at hx; omega)⟩
end Go.Proofs.YtgnffkahlniehaaGreat

/- Proved here: slices.Delete of one element out of a row of the call's own ([]*crier/rettrie.node). -/
namespace Go.Proofs.YtgnffkahlniehaaGreat
open Go Go.RowKit Go.Proofs.Gs Go.Lib Go.Shelf

set_option maxHeartbeats 4000000 in
set_option maxRecDepth 100000 in
theorem delN_any {w : World} {B : Nat} {v : Value} {n i : Nat} {xs : List Value} (hown : w.ownsRow B 56 1 v n xs) (hi : i < n) (hn : n ≤ 1000000000) (h1x : ∀ u ∈ xs, u.oneCell' = true) :
    Calls Tryz.prog 62 #[v, .int .i64 i, .int .i64 ((i : Int) + 1)] w fun e w' =>
      ∃ v', e = .returned v' ∧ w'.ownsRow B 56 1 v' (n - 1) (xs.take i ++ xs.drop (i + 1)) ∧ w.grownBy w' v.ownBlock := by
  obtain ⟨i0, hi0, hz0, hz1, hz2⟩ := info_parts infoInsN
  have hxl := hown.1
  rw [Nat.mul_one] at hxl
  obtain ⟨g, cap, cur, rfl, hBg, hg, hnc, hcm, hcs, hct⟩ : ∃ g cap cur, v = .slice (some ⟨g, 0, none⟩) n cap ∧ B ≤ g ∧ w.heap[g]? = some (.cells cur 56 (0, 0)) ∧ n ≤ cap ∧ cap ≤ maxLen ∧ cur.size = cap * 1 ∧ cur.toList.take (n * 1) = xs := by
    rcases hown.2 with ⟨rfl, rfl⟩ | h
    · omega
    · exact h
  rw [Nat.mul_one] at hcs hct
  unfold maxLen at hcm
  have mixed : Tryz.prog.follows .mixedOrders = true := by kernel_rfl
  have hcl : cur.toList.length = cap := by simpa using hcs
  have hdl : (xs.drop (i + 1)).length = n - (i + 1) := by rw [List.length_drop, hxl]
  have hcell : ∀ j u, xs[j]? = some u → w.cell? ⟨g, j, none⟩ = some u := fun j u hu => by
    unfold World.cell?
    simp only [hg]
    rw [← hct, List.getElem?_take] at hu
    split at hu
    · simpa using hu
    · cases hu
  obtain ⟨A, hA, hsrc⟩ : ∃ A : Addr, (if cap = i + 1 then (⟨g, 0, none⟩ : Addr) else ⟨g, i + 1, none⟩) = A ∧ Hid (∀ t u, (xs.drop (i + 1))[t]? = some u → w.drew.cell? (A.add t) = some u) := by
    by_cases h : cap = i + 1
    · refine ⟨⟨g, 0, none⟩, by simp [h], fun t u hu => ?_⟩
      have h0 : (xs.drop (i + 1)).length = 0 := by rw [hdl]; omega
      rw [List.length_eq_zero_iff.1 h0] at hu
      simp at hu
    · refine ⟨⟨g, i + 1, none⟩, by simp [h], fun t u hu => ?_⟩
      rw [Addr.add_lit]
      rw [List.getElem?_drop] at hu
      exact hcell _ u hu
  have s1 : Hid ((xs.drop (i + 1)).length = (n - (i + 1)) * 1) := by rw [Nat.mul_one]; exact hdl
  have s2 : Hid (∀ u ∈ xs.drop (i + 1), u.oneCell' = true) := fun u hu => h1x u (List.mem_of_mem_drop hu)
  have s3 : Hid (∀ t, t < (xs.drop (i + 1)).length → (w.drew.cell? ⟨g, 0 + i * 1 + t, none⟩).isSome = true ∧ w.drew.frozen? ⟨g, 0 + i * 1 + t, none⟩ = false) := fun t ht => by
    rw [hdl] at ht
    refine ⟨?_, by show w.frozen? _ = false; simp [World.frozen?, hg]⟩
    show (w.cell? _).isSome = true
    unfold World.cell?
    simp only [hg]
    rw [Array.getElem?_eq_getElem (by omega)]
    rfl
  obtain ⟨news, hnews⟩ : ∃ news, news = xs.drop (i + 1) := ⟨_, rfl⟩
  have hnl : news.length = n - (i + 1) := by rw [hnews]; exact hdl
  obtain ⟨W1, hW1⟩ : ∃ W1, W1 = w.drew.setCells g (0 + i * 1) news := ⟨_, rfl⟩
  have hW1' : W1 = w.drew.setRow g (splice cur.toList i news).toArray := by
    rw [hW1]
    have := gs_setCells Tryz.prog (w := w.drew) (g := g) (o := 0 + i * 1) (cur := cur) (t := 56) (vs := news) hg (by rw [hnl]; omega) (by rw [hnews]; exact s2.out)
    rw [this, show 0 + i * 1 = i by omega]
  have hg1 : W1.heap[g]? = some (.cells (splice cur.toList i news).toArray 56 (0, 0)) := by rw [hW1']; exact setRow_heap w.drew g cur _ _ _ hg
  have hl1 : (splice cur.toList i news).length = cap := by rw [length_splice _ _ _ (by rw [hnl, hcl]; omega)]; exact hcl
  have hgr1 : w.grownBy W1 (some g) := by rw [hW1']; have h := grown_setRow w.drew g (splice cur.toList i news).toArray; exact ⟨h.os, h.tape, h.output, h.size, h.block⟩
  have hcv : ∀ ty, (Builtin.clear_ #[58] ty #[.slice (some ⟨g, i + (n - (i + 1)), none⟩) (n - (i + (n - (i + 1)))) (cap - (i + (n - (i + 1))))]).run Tryz.prog W1 = .ok (.tuple #[]) (W1.setCells g (i + (n - (i + 1))) (List.replicate (n - (i + (n - (i + 1)))) (.pointer none))) :=
    fun ty => Lib.run_clear_slice W1 _ _ ty _ Tryz.underlying58 Tryz.zeroValue56 (by rfl) (by rfl) g (i + (n - (i + 1))) _ _ (by omega)
      (fun t ht => by
        unfold World.cell?
        simp only [hg1]
        rw [Array.getElem?_eq_getElem (by rw [List.size_toArray, hl1]; omega)]
        rfl) (fun t ht => by simp [World.frozen?, hg1])
  have hW2 := gs_setCells Tryz.prog (w := W1) (g := g) (o := i + (n - (i + 1))) (t := 56) (vs := List.replicate (n - (i + (n - (i + 1)))) (.pointer none)) hg1 (by rw [List.length_replicate, List.size_toArray, hl1]; omega) (fun u hu => by rw [(List.mem_replicate.1 hu).2]; rfl)
  have htk : (splice (splice cur.toList i news) (i + (n - (i + 1))) (List.replicate (n - (i + (n - (i + 1)))) (.pointer none))).take ((n - 1) * 1) = xs.take i ++ news := by
    have hti : cur.toList.take i = xs.take i := by rw [← hct, List.take_take, Nat.min_eq_left (by omega)]
    have hlt : (xs.take i ++ news).length = n - 1 := by rw [List.length_append, List.length_take, hnl, hxl]; omega
    have e1 : splice cur.toList i news = (xs.take i ++ news) ++ cur.toList.drop (i + news.length) := by unfold splice; rw [hti, List.append_assoc]
    rw [Nat.mul_one]
    have e2 : (splice (splice cur.toList i news) (i + (n - (i + 1))) (List.replicate (n - (i + (n - (i + 1)))) (.pointer none))).take (n - 1) = (splice cur.toList i news).take (n - 1) := by
      rw [show i + (n - (i + 1)) = n - 1 by omega]
      unfold splice
      rw [List.take_append_of_le_length (by rw [List.length_take]; have := hl1; unfold splice at this; omega), List.take_take, Nat.min_self]
    rw [e2, e1]
    exact List.take_left' hlt
  have hl2 : (splice (splice cur.toList i news) (i + (n - (i + 1))) (List.replicate (n - (i + (n - (i + 1)))) (.pointer none))).length = cap * 1 := by
    rw [length_splice _ _ _ (by rw [List.length_replicate, hl1]; omega), hl1, Nat.mul_one]
  rw [← hnews] at s1 s2 s3 hsrc ⊢
  have HW := Lib.hid hW1
  have HW2 := Lib.hid hW2
  have HT := Lib.hid htk
  have HL := Lib.hid hl2
  have HG := Lib.hid hg1
  have HGR := Lib.hid hgr1
  have HNL := Lib.hid hnl
  have hic : i ≤ cap := by omega
  have hjc : i + 1 ≤ cap := by omega
  have hne : ((i : Int) == (i : Int) + 1) = false := by rw [beq_eq_false_iff_ne]; omega
  have hw1 : IntKind.i64.wrap ((i : Int) + 1) = (i : Int) + 1 := by rw [IntKind.wrap_i64]; omega
  have hb1 : (0 : Int) ≤ (i : Int) + 1 := by omega
  have htn : ((i : Int) + 1).toNat = i + 1 := by omega
  have hb2 : (i : Int) + 1 ≤ (n : Int) := by omega
  have hb3 : (i : Int) + 1 ≤ (cap : Int) := by omega
  have hb4 : i + 1 ≤ n := by omega
  have hb5 : ¬ (cap = i + (n - (i + 1))) := by omega
  clear hW1 hW1' hg1 hl1 hgr1 hW2 htk hl2 hnews hdl hcell hct hcs hcl hg hown hxl h1x hnl
  go_enter Tryz.func62, Tryz.ntmps62
  go_wp2_with fail
  go_region_law (refine step_append_room rfl (.tmp 22) (.tmp 25) 58 rfl 56 i0 1 Tryz.underlying58 hi0 hz1 g 0 i cap (by simp [Act.eval, Act.put]) A (n - (i + 1)) (cap - (i + 1)) news (by simp [Act.eval, Act.put]; first | exact hA | (rw [← hA]; split <;> rfl)) s1.out hsrc.out s2.out (by omega) s3.out ?_; rw [← HW.out])
  all_goals
    go_wp2_with fail
  all_goals
    go_ret
    rw [HW2.out]
    have h2 := grown_setRow W1 g (splice (splice cur.toList i news) (i + (n - (i + 1))) (List.replicate (n - (i + (n - (i + 1)))) (.pointer none))).toArray
    refine ⟨_, rfl, ?_, ⟨h2.os.trans HGR.out.os, h2.tape.trans HGR.out.tape, h2.output.trans HGR.out.output, Nat.le_trans HGR.out.size h2.size, fun x hx hne => (h2.block x (Nat.lt_of_lt_of_le hx HGR.out.size) hne).trans (HGR.out.block x hx hne)⟩⟩
    have ho := owns_setRow HG.out hBg (m := n - 1) (cap := cap) (k := 1) (by unfold maxLen; omega) _ HL.out (by omega) HT.out
    have e1 : i + (n - (i + 1)) = n - 1 := by omega
    rw [e1] at ho ⊢
    first
      | exact ho
      | (have hc : cap = i + 1 := by assumption
         rw [hc] at ho
         exact ho)
end Go.Proofs.YtgnffkahlniehaaGreat
