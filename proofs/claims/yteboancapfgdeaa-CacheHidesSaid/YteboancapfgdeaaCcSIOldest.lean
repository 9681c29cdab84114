/- Proved here: Oldest of a cache: a range over its iterator. -/
import Derived.RangeFuncNested
import Derived.RangeFuncBound
import Derived.RangeFuncCalls
import Derived.RangeFuncLeaves
import Derived.Shelf.Abstract
import Derived.Shelf.RegionOpen
import Derived.WalkKit
import Derived.OwnWalkIn
import Derived.TacticsInMore
import Derived.LoopNIn
import Derived.LoopIn
import Derived.Test.YteboancapfgdeaaCcSIIter
namespace Go.Proofs.Yteboancapfgdeaa.SI
open Go.RowKit Go.Shelf Go.Proofs.Cc
attribute [local go_sem] Oper.semAt_some

abbrev encsSI (p : Str × I64) : Array Value := #[.string p.1.1, .int .i64 p.2.1]
def ptrBlk : Value → Nat | .pointer (some a) => a.block | _ => 0

theorem idxOf_nodup {l : List Nat} (hn : l.Nodup) {k x : Nat} (h : l[k]? = some x) : l.idxOf x = k := by
  have hk := List.getElem?_eq_some_iff.1 h
  obtain ⟨h1, h2⟩ := hk
  rw [← h2]
  exact hn.idxOf_getElem k h1

theorem wpIn_hid1 {F : Fence} {n : Nat} {P : Program} {c : Code} {Q : Exit → Act → World → Prop} {a : Act} {w : World}
    (h : ∀ Q' : Exit → Act → World → Prop, (∀ e a w, Q e a w → Q' e a w) → c.wpIn F n P Q' a w) : c.wpIn F n P Q a w := h Q (fun _ _ _ q => q)

set_option maxRecDepth 100000 in
set_option maxHeartbeats 1000000 in
theorem allSI_stops {w : World} {c : Nat} {S : Nat → Prop} {most : Nat} {E : List (Ent Str I64)} (HC : CacheAt Try.prog 9 kdS kdI w c S most E) (bx : Nat) (hbx : w.cell? ⟨bx, 0, none⟩ = some (.pointer (some ⟨c, 0, none⟩)))
    (n : Nat) (hn : 1 ≤ n) (U : Nat → Prop) (hU : ∀ x, U x → x < w.heap.size → ¬ (S x ∨ x = bx)) :
    SeqStopsK Fence.wide n Try.prog 132 #[.pointer (some ⟨bx, 0, none⟩)] encsSI (Turn U) (fun xs => xs = E.map kv) (fun pre => pre <+: E.map kv) E.length w := fun l J Jx W hW hJ hJx hY h0 => by
  obtain ⟨b, h, D, C0⟩ := HC
  have hfr : ∀ W' : World, Turn (fun x => ¬ (S x ∨ x = bx)) w W' → Core Try.prog 9 kdS kdI W' c b h D S most E ∧ W'.cell? ⟨bx, 0, none⟩ = some (.pointer (some ⟨c, 0, none⟩)) := fun W' hb =>
    ⟨C0.frame (hb.same (fun x hx h => h (.inl hx))), (hb.same (T := fun x => x = bx) (fun x hx h => h (.inr hx))).cell rfl hbx⟩
  have hW' : Turn (fun x => ¬ (S x ∨ x = bx)) w W := Turn.of_below hW
  clear hW
  have hW := hW'
  clear hW'
  have HU := Lib.hid hU
  clear hU
  have C := (hfr _ hW).1
  have hb0 := (hfr _ hW).2
  have hc1 := C.head
  obtain ⟨x0, hx0, hh0⟩ : ∃ x0, (E.map Ent.blk ++ [h])[0]? = some x0 ∧ W.cell? ⟨h, 0, none⟩ = some (.pointer (some ⟨x0, 0, none⟩)) := ⟨_, (by cases E <;> rfl), (seg_first h h _ C.ring).1⟩
  have hnd : (E.map Ent.blk ++ [h]).Nodup := by
    have := List.nodup_cons.1 (List.nodup_cons.1 C.nod).2
    rw [List.nodup_append]
    exact ⟨this.2, by simp, fun a ha b hb e => this.1 (by simp at hb; rw [← hb, ← e]; exact ha)⟩
  have HX0 := Lib.hid hx0
  have HFR := Lib.hid hfr
  have HY := Lib.hid hY
  have H0 := Lib.hid h0
  have HW := Lib.hid hW
  have HJ := Lib.hid hJ
  have HND := Lib.hid hnd
  clear hx0 hfr hY h0 hW hJ hnd C C0 hbx
  refine callsIn_of_wp Try.func132 rfl trivial ?_ rfl
  simp only [Try.ntmps132, List.size_toArray, List.length_cons, List.length_nil, Nat.reduceAdd, Nat.reduceSub, Array.replicate_succ, Array.replicate_zero, List.push_toArray, List.append_toArray, List.nil_append, List.cons_append]
  gi_wp2
  gi_loopw [3] (fun p wr => ∃ k x, p = .pointer (some ⟨x, 0, none⟩) ∧ (E.map Ent.blk ++ [h])[k]? = some x ∧ k ≤ E.length ∧ Turn (fun x => ¬ (S x ∨ x = bx)) w wr ∧ J ((E.map kv).take k) wr)
    (fun p _ => E.length - (E.map Ent.blk ++ [h]).idxOf (ptrBlk p))
  case atStart =>
    exact ⟨0, x0, rfl, HX0.out, Nat.zero_le _, HW.out, H0.out⟩
  case round =>
    obtain ⟨k, x, rfl, hx, hkl, hB, hJk⟩ := hrel
    have C := (HFR.out _ hB).1
    have hb1 := (HFR.out _ hB).2
    have hc1 := C.head
    have HX := Lib.hid hx
    have HB := Lib.hid hB
    have HJK := Lib.hid hJk
    by_cases hke : k = E.length
    · subst hke
      have hxh : x = h := by
        rw [List.getElem?_append_right (by simp)] at hx
        simp at hx
        exact hx.symm
      subst hxh
      obtain ⟨j0, hj0, -⟩ := infoEntSI
      have hneq : (binOp .neq 210 (.pointer (some ⟨x, 0, none⟩)) (.pointer (some ⟨x, 0, none⟩))).run Try.prog wr = .ok (.bool false) wr := run_neq_ptr_same _ Try.underlying210 hj0
      clear hx hB hJk C hj0 j0
      gi_wp2
      go_end0
      have hjk := HJK.out
      rw [List.take_of_length_le (by simp)] at hjk
      exact ⟨⟨_, rfl⟩, .inl ⟨_, rfl, hjk⟩⟩
    · have hkl' : k < E.length := by omega
      have hE := List.getElem?_eq_getElem hkl'
      obtain ⟨e, he⟩ : ∃ e, E[k] = e := ⟨_, rfl⟩
      rw [he] at hE
      have hex : x = e.blk := by
        rw [List.getElem?_append_left (by simp; omega), List.getElem?_map, hE] at hx
        simp at hx
        exact hx.symm
      subst hex
      have hin : e ∈ E := List.mem_of_getElem? hE
      have hne : e.blk ≠ h := fun y => (List.nodup_cons.1 (List.nodup_cons.1 C.nod).2).1 (y ▸ List.mem_map_of_mem hin)
      have e2 : wr.cell? ⟨e.blk, 2, none⟩ = some (.string e.key.1) := C.ents e hin 0 _ rfl
      have e3 : wr.cell? ⟨e.blk, 3, none⟩ = some (.int .i64 e.val.1) := C.ents e hin 1 _ rfl
      obtain ⟨j0, hj0, hj1⟩ := infoEntSI
      have hneq : (binOp .neq 210 (.pointer (some ⟨e.blk, 0, none⟩)) (.pointer (some ⟨h, 0, none⟩))).run Try.prog wr = .ok (.bool true) wr := run_neq_ptr_other Try.underlying210 hj0 hj1 (fun y => by injection y with y; exact hne y) (C.live _ (List.mem_cons_of_mem _ (List.mem_map_of_mem hin))) (C.live _ (by simp))
      have hJd : J ((E.map kv).take k) wr.drew := HJ.out _ _ _ none hJk ⟨rfl, rfl, rfl, Nat.le_refl _, fun _ _ _ => rfl⟩ (fun r e => by cases e)
      obtain ⟨fn, tmps, assign, body, hy, hR⟩ := HY.out _ (kv e) wr.drew hJd (by simp; omega)
      dsimp only [encsSI, kv] at hy
      have hR2 := hR.mono (R' := fun ex W' => ∃ bb, ex = .returned (.bool bb) ∧ (bb = true ∧ J ((E.map kv).take k ++ [kv e]) W' ∧ Turn U wr.drew W' ∨ bb = false ∧ Jx ((E.map kv).take k ++ [kv e]) W')) (by
        rintro ex W' (⟨rfl, h1, h2⟩ | ⟨rfl, h1⟩)
        · exact ⟨true, rfl, .inl ⟨rfl, h1, h2⟩⟩
        · exact ⟨false, rfl, .inr ⟨rfl, h1⟩⟩)
      clear hR
      have hmix : (Try.prog).follows .mixedOrders = true := by kernel_rfl
      have HE := Lib.hid hE
      have HIN := Lib.hid hin
      clear hj0 hj1 j0 hx hB hJk C hE hin he hJd
      gi_wp2
      have HR2 := Lib.hid hR2
      clear hR2 hneq hb1 hc1 hh0 hb0 HX0 H0 HW HY
      gi_region_with_o ((with_reducible refine RoundIn.mono HR2.out ?_); rintro ex W3 ⟨bb, rfl, hpost⟩)
      all_goals
        rcases hpost with ⟨rfl, hJ1, hk1⟩ | ⟨rfl, hx1⟩
        · have hB3 : Turn (fun x => ¬ (S x ∨ x = bx)) w W3 := (HB.out.drew).trans' hk1 (fun x hx => by
            by_cases hl : x < w.heap.size
            · exact .inl (HU.out x hx hl)
            · exact .inr (by omega))
          have C1 := (HFR.out _ hB3).1
          have hlt1 : k + 1 < (E.map Ent.blk ++ [h]).length := by simp; omega
          obtain ⟨y, hy1⟩ : ∃ y, (E.map Ent.blk ++ [h])[k + 1]? = some y := ⟨_, List.getElem?_eq_getElem hlt1⟩
          have hek : (h :: E.map Ent.blk)[k + 1]? = some e.blk := by
            rw [List.getElem?_cons_succ, List.getElem?_map, HE.out]; rfl
          have hnext := (seg_at _ _ _ _ _ _ C1.ring hek hy1).1
          have HYY := Lib.hid hy1
          have HJ1 := Lib.hid hJ1
          have HB3 := Lib.hid hB3
          clear C1 hlt1 hy1 hek hJ1 hk1 hB3 hy
          gi_wp2
          go_roundw
          case rel =>
            refine ⟨k + 1, y, rfl, HYY.out, by omega, HB3.out, ?_⟩
            rw [List.take_add_one, List.getElem?_map, HE.out]
            exact HJ1.out
          case measure =>
            have i1 := idxOf_nodup HND.out HYY.out
            have i2 := idxOf_nodup HND.out HX.out
            show E.length - (E.map Ent.blk ++ [h]).idxOf y < E.length - (E.map Ent.blk ++ [h]).idxOf e.blk
            rw [i1, i2]
            omega
        · have HX1 := Lib.hid hx1
          clear hx1 hy
          gi_wp2
          first | refine bodyPost_ret (results_none rfl _ _ _) rfl ?_ | (repeat (first | rw [Exit.noGoto_ret] | simp only [Exit.inBlock] | simp only [Exit.then]); refine bodyPost_ret (results_none rfl _ _ _) rfl ?_)
          refine ⟨⟨_, rfl⟩, .inr ⟨_, ?_, HX1.out⟩⟩
          have ht : (E.map kv).take k ++ [kv e] = (E.map kv).take (k + 1) := by rw [List.take_add_one, List.getElem?_map, HE.out]; rfl
          rw [ht]
          exact List.take_prefix _ _

end Go.Proofs.Yteboancapfgdeaa.SI
