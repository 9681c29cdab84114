/- Proved here: what cut, lay and empty of a cache do to memory. -/
import Derived.Test.YteboancapfgdeaaProg
import Derived.Test.YteboancapfgdeaaCcOps
import Derived.Deep.RegionHeld3
import Derived.Deep.DrawnRows
import Derived.Lib.Hide
import Derived.BigRegion
import Derived.Carry
import Derived.Test.YteboancapfgdeaaCcKindsB
import Derived.Test.YteboancapfgdeaaCcKindsK
import Derived.Test.YteboancapfgdeaaCcBox
import Derived.Deep.DeepCutAuto
import Derived.Test.YteboancapfgdeaaCcRefB
import Derived.LaidEqlPtr
import Derived.Test.YteboancapfgdeaaCcCodes
import Derived.Test.YteboancapfgdeaaCcCodesK
import Derived.Test.YteboancapfgdeaaCcSame
import Derived.Test.YteboancapfgdeaaRgNorm
import Derived.Deep.RegionLaw
import Derived.Deep.AppendLies
import Derived.Laws.EntriesVeiled
import Derived.RangeFuncNested
import Derived.RangeFuncBound
import Derived.RangeFuncCalls
import Derived.RangeFuncLeaves
import Derived.Shelf.Abstract
import Derived.Shelf.RegionOpen
import Derived.WalkKit
import Derived.OwnWalkIn
import Derived.TacticsInMore
import Derived.LoopNIn
import Derived.LoopIn
import Derived.Test.YteboancapfgdeaaCcDoesP
import Derived.Laws.BitsLemmas
import Derived.Test.YteboancapfgdeaaCcPairP
namespace Go.Proofs.Yteboancapfgdeaa.IK
open Go.RowKit Go.Proofs.Cc
attribute [local go_sem ↓] Go.wp_at_zero Go.wp_at_succ

theorem keepA {w : World} {a b o p : Nat} {u v : Value} (hc : w.cell? ⟨b, p, none⟩ = some u) (h : a ≠ b ∨ o ≠ p) : (w.setCell ⟨a, o, none⟩ v).drew.cell? ⟨b, p, none⟩ = some u := (cell_set_other (w := w) h).trans hc
theorem keepB {w : World} {a b o p : Nat} {u v : Value} (hc : w.cell? ⟨b, p, none⟩ = some u) (h : a ≠ b ∨ o ≠ p) : (w.setCell ⟨a, o, none⟩ v).cell? ⟨b, p, none⟩ = some u := (cell_set_other (w := w) h).trans hc


theorem cutIK_any (c : Value) (e n l : Nat) (w : World) (h1 : w.cell? ⟨e, 0, none⟩ = some (.pointer (some ⟨n, 0, none⟩))) (h2 : w.cell? ⟨e, 1, none⟩ = some (.pointer (some ⟨l, 0, none⟩)))
    {u v : Value} (h3 : w.cell? ⟨n, 1, none⟩ = some u) (h4 : w.cell? ⟨l, 0, none⟩ = some v) (f1 : Live w n) (f2 : Live w l)  :
    Calls Try.prog 140 #[c, .pointer (some ⟨e, 0, none⟩)] w fun ex w' => ex = .returned (.tuple #[]) ∧ w' = (tie w l n).drew := by
  have g3 := f1.frozen 1 none
  have g4 := f2.frozen 0 none
  go_enter Try.func140, Try.ntmps140
  go_wp2_with fail
  go_region
  go_wp2_with fail
  go_end0
  exact ⟨rfl, rfl⟩

/-- An entry is laid down behind h, ahead of f. -/
theorem layIK_any (c h f e : Nat) (w : World) (h0 : w.cell? ⟨c, 1, none⟩ = some (.pointer (some ⟨h, 0, none⟩))) (h1 : w.cell? ⟨h, 0, none⟩ = some (.pointer (some ⟨f, 0, none⟩)))
    {u v x : Value} (h2 : w.cell? ⟨f, 1, none⟩ = some u) (h3 : w.cell? ⟨e, 0, none⟩ = some v) (h4 : w.cell? ⟨e, 1, none⟩ = some x) (f1 : Live w h) (f2 : Live w f) (f3 : Live w e)
    (d1 : e ≠ c) (d2 : e ≠ h) (d5 : f ≠ e) :
    Calls Try.prog 141 #[.pointer (some ⟨c, 0, none⟩), .pointer (some ⟨e, 0, none⟩)] w fun ex w' => ex = .returned (.tuple #[]) ∧ w' = (lays w h f e).drew.drew := by
  have g3 := f3.frozen 1 none
  have g4 := f3.frozen 0 none
  go_enter Try.func141, Try.ntmps141
  go_wp2_with fail
  go_region
  have k0 : ((w.setCell ⟨e, 1, none⟩ (.pointer (some ⟨h, 0, none⟩))).setCell ⟨e, 0, none⟩ (.pointer (some ⟨f, 0, none⟩))).cell? ⟨c, 1, none⟩ = some (.pointer (some ⟨h, 0, none⟩)) := keepB (keepB h0 (.inl d1)) (.inl d1)
  have k1 : ((w.setCell ⟨e, 1, none⟩ (.pointer (some ⟨h, 0, none⟩))).setCell ⟨e, 0, none⟩ (.pointer (some ⟨f, 0, none⟩))).cell? ⟨h, 0, none⟩ = some (.pointer (some ⟨f, 0, none⟩)) := keepB (keepB h1 (.inl d2)) (.inl d2)
  have k2 : ((w.setCell ⟨e, 1, none⟩ (.pointer (some ⟨h, 0, none⟩))).setCell ⟨e, 0, none⟩ (.pointer (some ⟨f, 0, none⟩))).cell? ⟨f, 1, none⟩ = some u := keepB (keepB h2 (.inl (Ne.symm d5))) (.inl (Ne.symm d5))
  have k3 := ((f2.setCell ⟨e, 1, none⟩ (.pointer (some ⟨h, 0, none⟩))).setCell ⟨e, 0, none⟩ (.pointer (some ⟨f, 0, none⟩))).frozen 1 none
  have k4 := ((f1.setCell ⟨e, 1, none⟩ (.pointer (some ⟨h, 0, none⟩))).setCell ⟨e, 0, none⟩ (.pointer (some ⟨f, 0, none⟩))).frozen 0 none
  obtain ⟨w1, hw1⟩ : ∃ w1, (w.setCell ⟨e, 1, none⟩ (.pointer (some ⟨h, 0, none⟩))).setCell ⟨e, 0, none⟩ (.pointer (some ⟨f, 0, none⟩)) = w1 := ⟨_, rfl⟩
  have HW := Lib.hid hw1
  rw [hw1] at k0 k1 k2 k3 k4 ⊢
  clear hw1
  have k0' : w1.drew.cell? ⟨c, 1, none⟩ = _ := k0
  have k1' : w1.drew.cell? ⟨h, 0, none⟩ = _ := k1
  go_wp2_with fail
  go_region
  go_wp2_with fail
  go_end0
  exact ⟨rfl, by rw [← HW.out]; rfl⟩

theorem emptyIK_any (c : Nat) (w : World) {u v : Value} (h1 : w.cell? ⟨c, 1, none⟩ = some u) (h2 : w.cell? ⟨c, 2, none⟩ = some v) (f1 : Live w c) :
    Calls Try.prog 135 #[.pointer (some ⟨c, 0, none⟩)] w fun ex w' => ex = .returned (.tuple #[]) ∧
      w' = (emptied w c 247 [.int .i64 0, .string ByteArray.empty, .int .i64 0]).drew := by
  have hmm := @run_makeMap Try.prog
  have hlt := f1.lt
  have g1 := f1.frozen 1 none
  have g2 := f1.frozen 2 none
  go_enter Try.func135, Try.ntmps135
  go_wp2_with fail
  go_region
  go_wp2_with fail
  go_end0
  exact ⟨rfl, rfl⟩

end Go.Proofs.Yteboancapfgdeaa.IK

/- Proved here: Drop of a cache. -/
namespace Go.Proofs.Yteboancapfgdeaa.IK
open Go.RowKit Go.Proofs.Cc

theorem dropIK_any {w : World} {c : Nat} {S : Nat → Prop} {most : Nat} {E : List (Ent I64 KeyV)} (HC : CacheAt Try.prog 3 kdI kdK w c S most E) (k : I64) :
    Calls Try.prog 75 #[.pointer (some ⟨c, 0, none⟩), .int .i64 k.1] w fun ex w' => ex = .returned (.bool (decide (k ∈ E.map Ent.key))) ∧ CacheAt Try.prog 3 kdI kdK w' c S most (rmE k E) ∧ Turn S w w' := by
  obtain ⟨b, h, D, C⟩ := HC
  have hc2 := C.by'
  have hown := C.own
  have hkey := Maps.keyOf_int_mk Try.underlying3 k.2
  have HC := Lib.hid C
  by_cases hk : k ∈ E.map Ent.key
  · obtain ⟨p, e, q, hE, he⟩ := key_split hk
    have hhas : Maps.has D (kdI.lit k) = true := by rw [C.has]; simp [hk]
    have hat : ∀ z, D.atKey (kdI.lit k) z = .lit (.int .i64 e.blk) := by rw [← he]; exact C.at' e (by rw [hE]; simp)
    obtain ⟨l, n, r1, r2, n1, n2, l1, l2, hring⟩ := C.around hE
    have HR := Lib.hid hring
    have HE := Lib.hid hE
    have Hk := Lib.hid hk
    have He := Lib.hid he
    have hl := C.live l r1
    have hn := C.live n r2
    clear hring hE hk he C
    go_enter Try.func75, Try.ntmps75
    go_wp2_with (at_lookup; refine lookup_hit rfl _ _ 225 rfl 3 224 (Maps.int_keyed Try.underlying3) Try.underlying225 (Try.zeroValue224 _) b _ D rfl hown _ _ rfl hkey e.blk hat hhas ?_)
    go_wp2_with fail
    refine (cutIK_any _ _ _ _ _ l2.1 l1.2 l2.2 l1.1 hn hl).mono ?_
    rintro ex w1 ⟨rfl, hw1⟩
    have T : Brushed (inRing h E) w w1 := by rw [hw1]; exact (tie_touch r1 r2).drew
    have hring1 : Seg w1 h ((p ++ q).map Ent.blk) h := by rw [hw1]; exact HR.out.drew
    have hc3 : w1.cell? ⟨c, 2, none⟩ = some (.map (some b)) := (T.other HC.out.notC 2).trans hc2
    have hown1 := HC.out.ownTouched T
    have HT := Lib.hid T
    have HR1 := Lib.hid hring1
    clear hw1 T hring1 hc2 hown
    go_wp2_with (at_delete; refine wpList_delete_own _ rfl _ _ 225 3 rfl 224 (Maps.int_keyed Try.underlying3) Try.underlying225 _ b _ D rfl hown1 _ _ rfl hkey ?_; intro w2 hown2 hturn2)
    go_wp2_with fail
    go_ret
    have hdrop := HC.out.drop (w2 := w2) okI HE.out HT.out HR1.out (by rw [He.out]; exact hown2) hturn2 (Maps.int_keyed Try.underlying3)
    have hrm : rmE k E = p ++ q := by have hn := HC.out.keys; rw [HE.out] at hn ⊢; exact rmE_mid He.out hn
    rw [hrm]
    exact ⟨by simp [Hk.out], ⟨b, h, _, hdrop.1⟩, hdrop.2⟩
  · have hhas : Maps.has D (kdI.lit k) = false := by rw [C.has]; simp [hk]
    have Hk := Lib.hid hk
    clear hk C
    go_enter Try.func75, Try.ntmps75
    go_wp2_with (at_lookup; refine lookup_miss rfl _ _ 225 rfl 3 224 (Maps.int_keyed Try.underlying3) Try.underlying225 (Try.zeroValue224 _) b _ D rfl hown _ _ rfl hkey hhas ?_)
    go_wp2_with fail
    go_ret
    rw [rmE_none Hk.out]
    exact ⟨by simp [Hk.out], ⟨b, h, D, HC.out⟩, Turn.refl S w⟩

end Go.Proofs.Yteboancapfgdeaa.IK

/- Proved here: Get and Len of a cache. -/
namespace Go.Proofs.Yteboancapfgdeaa.IK
open Go.RowKit Go.Proofs.Cc

theorem cell_alloc_o {w : World} {a : Addr} {v : Value} (o : Obj) (h : w.cell? a = some v) : (w.alloc o).cell? a = some v := (World.cell?_of_block (w := w) (Below.heap_alloc w o _ (World.block_lt_of_cell? w a h))).trans h
theorem frozen_alloc_o {w : World} {a : Addr} {v : Value} (o : Obj) (h : w.cell? a = some v) (hf : w.frozen? a = false) : (w.alloc o).frozen? a = false := (World.frozen?_of_block (w := w) (Below.heap_alloc w o _ (World.block_lt_of_cell? w a h))).trans hf

set_option maxRecDepth 100000 in
set_option maxHeartbeats 1000000 in
theorem getIK_any {w : World} {c : Nat} {S : Nat → Prop} {most : Nat} {E : List (Ent I64 KeyV)} (HC0 : CacheAt Try.prog 3 kdI kdK w c S most E) (k : I64) :
    Calls Try.prog 73 #[.pointer (some ⟨c, 0, none⟩), .int .i64 k.1] w fun ex w' =>
      (k ∉ E.map Ent.key ∧ ex = .returned (.tuple #[.agg #[.string ⟨#[]⟩, .int .i64 0], .bool false]) ∧ Below w.heap.size w w') ∨
      (∃ p e q, E = p ++ e :: q ∧ e.key = k ∧ ex = .returned (.tuple #[.agg #[.string e.val.name.1, .int .i64 e.val.n.1], .bool true]) ∧ CacheAt Try.prog 3 kdI kdK w' c S most (e :: (p ++ q)) ∧ Turn S w w') := by
  have H0 := Lib.hid (CacheAt.tight0 HC0)
  clear HC0
  go_enter Try.func73, Try.ntmps73
  go_upto_region 1 with fail
  generalize hW : w.alloc (.cells #[.string ⟨#[]⟩, .int .i64 0] 31) = W
  obtain ⟨hbw, hsz, x0, x1⟩ := box2 w _ _ _ hW
  have hlv : Live W w.heap.size := by rw [← hW]; exact ⟨_, _, (MapKept.heap_alloc w _).1⟩
  obtain ⟨b, h, D, C⟩ := H0.out.frame (Below.toSame hbw)
  have HBW := Lib.hid hbw
  have HLV := Lib.hid hlv
  have hc2 := C.by'
  have hown := C.own
  have hkey := Maps.keyOf_int_mk Try.underlying3 k.2
  have HC := Lib.hid C
  have hlt : w.heap.size < W.heap.size := by omega
  clear hW hbw H0 hlv
  by_cases hk : k ∈ E.map Ent.key
  · obtain ⟨p, e, q, hE, he⟩ := key_split hk
    have hhas : Maps.has D (kdI.lit k) = true := by rw [C.has]; simp [hk]
    have hat : ∀ z, D.atKey (kdI.lit k) z = .lit (.int .i64 e.blk) := by rw [← he]; exact C.at' e (by rw [hE]; simp)
    have hc1 := C.head
    obtain ⟨l, n, r1, r2, n1, n2, l1, l2, hring⟩ := C.around hE
    have HR := Lib.hid hring
    have HE := Lib.hid hE
    have He := Lib.hid he
    have hl := C.live l r1
    have hn := C.live n r2
    clear hring hE hk he C
    go_wp2_with (at_lookup; refine lookup_hit rfl _ _ 225 rfl 3 224 (Maps.int_keyed Try.underlying3) Try.underlying225 (Try.zeroValue224 _) b _ D rfl hown _ _ rfl hkey e.blk hat hhas ?_)
    go_wp2_with fail
    refine (cutIK_any _ _ _ _ _ l2.1 l1.2 l2.2 l1.1 hn hl).mono ?_
    rintro ex w1 ⟨rfl, hw1⟩
    have T : Brushed (inRing h E) W w1 := by rw [hw1]; exact (tie_touch r1 r2).drew
    have hring1 : Seg w1 h ((p ++ q).map Ent.blk) h := by rw [hw1]; exact HR.out.drew
    have e0 : w1.cell? ⟨e.blk, 0, none⟩ = some (.pointer (some ⟨n, 0, none⟩)) := by
      rw [hw1]; exact (tie_other (w := W) ⟨.inl (Ne.symm n1), .inl (Ne.symm n2)⟩).trans l2.1
    have e1 : w1.cell? ⟨e.blk, 1, none⟩ = some (.pointer (some ⟨l, 0, none⟩)) := by
      rw [hw1]; exact (tie_other (w := W) ⟨.inl (Ne.symm n1), .inl (Ne.symm n2)⟩).trans l1.2
    obtain ⟨f, rf, fe, ec, eh, re, lf, hring2⟩ := HC.out.laid HE.out hring1 e0 e1
    have h1' : w1.cell? ⟨c, 1, none⟩ = some (.pointer (some ⟨h, 0, none⟩)) := (T.other HC.out.notC 1).trans hc1
    have rh : inRing h E h := by unfold inRing; simp
    have lv1 := T.live h (HC.out.live h rh)
    have lv2 := T.live f (HC.out.live f rf)
    have lv3 := T.live e.blk (HC.out.live e.blk re)
    have HT := Lib.hid T
    have HR1 := Lib.hid hring2
    clear hw1 T hring1 hring2 hc2 hown hc1 hl hn l1 l2
    go_wp2_with fail
    refine (layIK_any c h f e.blk w1 h1' lf.1 lf.2 e0 e1 lv1 lv2 lv3 ec eh fe).mono ?_
    rintro ex w2 ⟨rfl, hw2⟩
    have T2 : Brushed (inRing h E) W w2 := by rw [hw2]; exact (HT.out.trans (lays_touch rh rf re)).drew.drew
    have hring3 : Seg w2 h ((e :: (p ++ q)).map Ent.blk) h := by rw [hw2]; exact HR1.out.drew.drew
    have C2 := HC.out.get HE.out T2 hring3
    have hv0 : w2.cell? ⟨e.blk, 3, none⟩ = some (.string e.val.name.1) := C2.ents e (by simp) 1 _ rfl
    have hv1 : w2.cell? ⟨e.blk, 4, none⟩ = some (.int .i64 e.val.n.1) := C2.ents e (by simp) 2 _ rfl
    have hnr : ¬ inRing h E w.heap.size := fun h => by have := (HC.out.ring_sub _ h).2; omega
    have y0 : w2.cell? ⟨w.heap.size, 0, none⟩ = some (.string ⟨#[]⟩) := (T2.other hnr 0).trans x0
    have y1 : w2.cell? ⟨w.heap.size, 1, none⟩ = some (.int .i64 0) := (T2.other hnr 1).trans x1
    have hT2 := T2.turn HC.out.ring_sub
    have hlv2 : Live w2 w.heap.size := by
      obtain ⟨cs, t, hcs⟩ := HLV.out
      exact ⟨cs, t, (hT2.block _ hlt (fun h => by have := h.2; omega)).trans hcs⟩
    have hfr := fun o => hlv2.frozen o none
    have HC2 := Lib.hid C2
    have HT2 := Lib.hid hT2
    clear hw2 T2 hring3 C2 e0 e1 lv1 lv2 lv3 h1' lf hT2 x0 x1 hlv2
    go_wp2_with fail
    have z0 : ((w2.setCell ⟨w.heap.size, 0, none⟩ (.string e.val.name.1)).setCell ⟨w.heap.size, 1, none⟩ (.int .i64 e.val.n.1)).cell? ⟨w.heap.size, 0, none⟩ = some (.string e.val.name.1) := (cell_set_other (.inr (by simp))).trans (cell_set_same y0)
    have z1 : ((w2.setCell ⟨w.heap.size, 0, none⟩ (.string e.val.name.1)).setCell ⟨w.heap.size, 1, none⟩ (.int .i64 e.val.n.1)).cell? ⟨w.heap.size, 1, none⟩ = some (.int .i64 e.val.n.1) := cell_set_same ((cell_set_other (.inr (by simp))).trans y1)
    have hTs : Turn (fun x => x = w.heap.size) w2 ((w2.setCell ⟨w.heap.size, 0, none⟩ (.string e.val.name.1)).setCell ⟨w.heap.size, 1, none⟩ (.int .i64 e.val.n.1)) := ((Turn.refl (fun x => x = w.heap.size) w2).setCell (p := ⟨w.heap.size, 0, none⟩) (.inl rfl) _).setCell (p := ⟨w.heap.size, 1, none⟩) (.inl rfl) _
    generalize (w2.setCell ⟨w.heap.size, 0, none⟩ (.string e.val.name.1)).setCell ⟨w.heap.size, 1, none⟩ (.int .i64 e.val.n.1) = w3 at z0 z1 hTs ⊢
    refine bodyPost_ret (v := .tuple #[.agg #[.string e.val.name.1, .int .i64 e.val.n.1], .bool true]) (by simp [results, Try.results73, go_sem, z0, z1]) rfl ?_
    refine .inr ⟨p, e, q, HE.out, He.out, rfl, (CacheAt.frame (show CacheAt _ _ _ _ _ _ _ _ _ from ⟨b, h, D, HC2.out⟩) (hTs.same (fun x hx h => by have := hx.2; omega))).wider (fun x hx => hx.1), (Turn.of_below HBW.out).trans ((HT2.out.mono (fun x hx => .inl hx.1)).trans' hTs (fun x hx => .inl (.inr (by omega))))⟩
  · have hhas : Maps.has D (kdI.lit k) = false := by rw [C.has]; simp [hk]
    have Hk := Lib.hid hk
    have hfr := fun o => HLV.out.frozen o none
    clear hk C
    go_wp2_with (at_lookup; refine lookup_miss rfl _ _ 225 rfl 3 224 (Maps.int_keyed Try.underlying3) Try.underlying225 (Try.zeroValue224 _) b _ D rfl hown _ _ rfl hkey hhas ?_)
    go_wp2_with fail
    have hTs : Turn (fun x => x = w.heap.size) W ((((W.setCell ⟨w.heap.size, 0, none⟩ (.string ⟨#[]⟩)).setCell ⟨w.heap.size, 1, none⟩ (.int .i64 0)).alloc (.cells #[.string ⟨#[]⟩, .int .i64 0] 31))) := (((Turn.refl (fun x => x = w.heap.size) W).setCell (p := ⟨w.heap.size, 0, none⟩) (.inl rfl) _).setCell (p := ⟨w.heap.size, 1, none⟩) (.inl rfl) _).alloc _
    have z0 : (((W.setCell ⟨w.heap.size, 0, none⟩ (.string ⟨#[]⟩)).setCell ⟨w.heap.size, 1, none⟩ (.int .i64 0)).alloc (.cells #[.string ⟨#[]⟩, .int .i64 0] 31)).cell? ⟨w.heap.size, 0, none⟩ = some (.string ⟨#[]⟩) := cell_alloc_o _ ((cell_set_other (.inr (by simp))).trans (cell_set_same x0))
    have z1 : (((W.setCell ⟨w.heap.size, 0, none⟩ (.string ⟨#[]⟩)).setCell ⟨w.heap.size, 1, none⟩ (.int .i64 0)).alloc (.cells #[.string ⟨#[]⟩, .int .i64 0] 31)).cell? ⟨w.heap.size, 1, none⟩ = some (.int .i64 0) := cell_alloc_o _ (cell_set_same ((cell_set_other (.inr (by simp))).trans x1))
    generalize ((W.setCell ⟨w.heap.size, 0, none⟩ (.string ⟨#[]⟩)).setCell ⟨w.heap.size, 1, none⟩ (.int .i64 0)).alloc (.cells #[.string ⟨#[]⟩, .int .i64 0] 31) = w3 at z0 z1 hTs ⊢
    refine bodyPost_ret (v := .tuple #[.agg #[.string ⟨#[]⟩, .int .i64 0], .bool false]) (by simp [results, Try.results73, go_sem, z0, z1]) rfl ?_
    exact .inl ⟨Hk.out, rfl, HBW.out.trans (hTs.below (by omega) (fun x hx y => by omega))⟩

theorem lenIK_any {w : World} {c : Nat} {S : Nat → Prop} {most : Nat} {E : List (Ent I64 KeyV)} (HC : CacheAt Try.prog 3 kdI kdK w c S most E) :
    Calls Try.prog 77 #[.pointer (some ⟨c, 0, none⟩)] w fun ex w' => ex = .returned (.int .i64 E.length) ∧ w' = w := by
  obtain ⟨b, h, D, C⟩ := HC
  have hc2 := C.by'
  have hown := C.own
  have HZ := Lib.hid C.size
  clear C
  go_enter Try.func77, Try.ntmps77
  go_wp2_with (at_len; refine wpList_len_own _ rfl _ 225 rfl 3 224 Try.underlying225 _ b _ D rfl hown ?_)
  go_wp2_with fail
  go_ret
  rw [HZ.out]
  exact ⟨rfl, rfl⟩

theorem clearIK_any {w : World} {c : Nat} {S : Nat → Prop} {most : Nat} {E : List (Ent I64 KeyV)} (HC : CacheAt Try.prog 3 kdI kdK w c S most E) :
    Calls Try.prog 76 #[.pointer (some ⟨c, 0, none⟩)] w fun ex w' => ex = .returned (.int .i64 E.length) ∧ CacheAt Try.prog 3 kdI kdK w' c (Grow S w) most [] ∧ Turn S w w' := by
  obtain ⟨b, h, D, C⟩ := HC
  have hc2 := C.by'
  have hown := C.own
  have HC := Lib.hid C
  have HZ := Lib.hid C.size
  clear C
  go_enter Try.func76, Try.ntmps76
  go_wp2_with (at_len; refine wpList_len_own _ rfl _ 225 rfl 3 224 Try.underlying225 _ b _ D rfl hown ?_)
  go_wp2_with fail
  refine (emptyIK_any c _ HC.out.head hc2 HC.out.liveC).mono ?_
  rintro ex w1 ⟨rfl, hw1⟩
  have HE := HC.out.emptied hw1
  clear hc2 hown hw1
  go_wp2_with fail
  go_ret
  rw [HZ.out]
  exact ⟨rfl, HE.1, HE.2⟩

end Go.Proofs.Yteboancapfgdeaa.IK

/- Proved here: Put of a cache. -/
namespace Go.Proofs.Yteboancapfgdeaa.IK
open Go.RowKit Go.Proofs.Cc
attribute [local go_sem ↓] Go.wp_at_zero Go.wp_at_succ

set_option maxRecDepth 100000 in
set_option maxHeartbeats 1000000 in
theorem putIK_any {w : World} {c : Nat} {S : Nat → Prop} {most : Nat} {E : List (Ent I64 KeyV)} (HC0 : CacheAt Try.prog 3 kdI kdK w c S most E) (k : I64) (v : KeyV) (hlen : E.length ≤ 1048576) (_hmost : most ≤ 1048576) :
    Calls Try.prog 74 #[.pointer (some ⟨c, 0, none⟩), .int .i64 k.1, .agg #[.string v.name.1, .int .i64 v.n.1]] w fun ex w' =>
      ex = .returned (.tuple #[]) ∧ ∃ E2, CacheAt Try.prog 3 kdI kdK w' c (Grow S w) most E2 ∧ E2.map kv = putD most k v (E.map kv) ∧ Turn S w w' := by
  have hkey := Maps.keyOf_int_mk Try.underlying3 k.2
  have HK := Lib.hid hkey
  have H0 := Lib.hid (CacheAt.tight0 HC0)
  clear hkey HC0
  go_enter Try.func74, Try.ntmps74
  go_upto_region 1 with fail
  generalize hW : w.alloc (.cells #[.string v.name.1, .int .i64 v.n.1] 31) = W
  obtain ⟨hbw, hsz, x0, x1⟩ := box2 w _ _ _ hW
  have HBW := Lib.hid hbw
  have HCW := Lib.hid (H0.out.frame (Below.toSame hbw))
  have hlt : w.heap.size < W.heap.size := by omega
  clear hW hbw H0
  go_wp2_with fail
  refine (dropIK_any HCW.out k).mono ?_
  rintro ex w1 ⟨rfl, HC1, hT1⟩
  have hlen1 : (rmE k E).length ≤ 1048576 := Nat.le_trans (List.length_filter_le _ _) hlen
  have hnk := not_mem_rmE k E
  have hmap := map_rmE k E
  generalize hE1 : rmE k E = E1 at *
  clear hE1
  have hsame : Same (fun x => x = w.heap.size) W w1 := hT1.same (fun x hx h => by have := h.2; omega)
  have y0 := hsame.cell rfl x0
  have y1 := hsame.cell rfl x1
  have hltc : w.heap.size < w1.heap.size := by have := hT1.size; omega
  obtain ⟨b, h, D, C⟩ := HC1
  have HH := Lib.hid C
  have HT1 := Lib.hid hT1
  have HM := Lib.hid hmap
  have HN := Lib.hid hnk
  have hc2 := C.by'
  have hown := C.own
  have hkey := HK.out
  have hml : E1.length < maxLen := by unfold maxLen; omega
  have hcl := C.liveC.lt
  clear C hT1 hmap hnk HCW hlen1 hlen hsame x0 x1
  go_wp2_with (at_mapUpdate; refine wpList_mapUpdate_in _ rfl _ _ _ 225 rfl 3 224 (Maps.int_keyed Try.underlying3) Try.underlying225 ptrR b _ D rfl (hown.alloc _) hml _ _ (kdI.lit k) rfl rfl hkey (.lit (.int .i64 w1.heap.size)) [] rfl ?_; intro w3 hown3 hturn3)
  obtain ⟨f, rf, hfl, lf, h1', n0, n1, lv1, lv2, lv3, hcl', hhl, hhc, hT3, hsz3, hold3, hnew3, hring3⟩ := HH.out.fresh (k := k) (v := v) rfl hturn3
  have HB := Lib.hid (show f = h ∨ inRing h E1 f from rf)
  have HO := Lib.hid hown3
  have HL := Lib.hid hold3
  have HW := Lib.hid hnew3
  have HR := Lib.hid hring3
  have HT3 := Lib.hid hT3
  have d1 : w1.heap.size ≠ c := by omega
  have d2 : w1.heap.size ≠ h := by omega
  have d3 : f ≠ w1.heap.size := by omega
  clear hown3 hold3 hnew3 hring3 hT3 hturn3 hc2 hown rf hsz3
  go_wp2_with fail
  refine (layIK_any c h f w1.heap.size w3 h1' lf.1 lf.2 n0 n1 lv1 lv2 lv3 d1 d2 d3).mono ?_
  rintro ex w4 ⟨rfl, hw4⟩
  have C4 := HH.out.put (v := v) okI (Maps.int_keyed Try.underlying3) HN.out HO.out HL.out HW.out HB.out HR.out HT3.out hw4
  have HP := Lib.hid C4.1
  have HT4 := Lib.hid C4.2
  have hc2 := C4.1.by'
  have hc0 := C4.1.most
  have hc1 := C4.1.head
  have hl := C4.1.own.drew.len Try.underlying225 3
  rw [C4.1.size] at hl
  obtain ⟨p, e, hpe, hlast⟩ := C4.1.last (by simp)
  have hkl : w4.cell? ⟨e.blk, 2, none⟩ = some (.int .i64 e.key.1) := C4.1.ents e (by rw [hpe]; simp) 0 _ rfl
  have HPE := Lib.hid hpe
  have HC4 : CacheAt Try.prog 3 kdI kdK w4 c (Grow (fun x => S x ∧ x < w.heap.size) w1) most (⟨w1.heap.size, k, v⟩ :: E1) := ⟨b, h, _, C4.1⟩
  have HCC := Lib.hid HC4
  have hL : (⟨w1.heap.size, k, v⟩ :: E1 : List (Ent I64 KeyV)).length = E1.length + 1 := rfl
  rw [hL] at hl
  clear C4 hw4 hpe HC4 hL lf n0 n1 lv1 lv2 lv3 h1' d1 d2 d3
  by_cases hover : most < E1.length + 1
  · have hdec : decide ((most : Int) < (E1.length : Int) + 1) = true := by simp; omega
    have HV := Lib.hid hover
    clear hover
    go_wp2_with fail
    go_region
    go_wp2_with fail
    refine (dropIK_any (HCC.out.frame (w' := w4.drew) (fun _ _ _ => rfl)) e.key).mono ?_
    rintro ex w5 ⟨rfl, HC5, hT5⟩
    go_wp2_with fail
    go_end0
    have hkeys := HP.out.keys
    rw [HPE.out] at hkeys HC5
    have hr := rmE_mid (q := []) (k := e.key) (p := p) (e := e) rfl hkeys
    rw [List.append_nil] at hr
    rw [hr] at HC5
    refine ⟨rfl, p, HC5.wider (fun x hx => hx.elim (fun y => .inl y.1) (fun y => .inr (by omega))), ?_, (Turn.of_below HBW.out).trans ((HT1.out.trans ((HT4.out.mono (fun x hx => .inl hx)).trans' (hT5.of_drew) (fun x hx => hx.elim (fun y => .inl (.inl y)) (fun y => .inr y)))).mono (fun x hx => .inl hx.1))⟩
    have hm := congrArg (List.map kv) HPE.out
    rw [List.map_append, List.map_cons, HM.out] at hm
    have hl2 := congrArg List.length HM.out
    rw [List.length_map] at hl2
    have hov := HV.out
    unfold putD
    rw [if_pos (by rw [List.length_cons, ← hl2]; exact hov)]
    change (k, v) :: rmD k (E.map kv) = _ at hm
    rw [hm]
    simp
  · have hdec : decide ((most : Int) < (E1.length : Int) + 1) = false := by simp; omega
    have HV := Lib.hid hover
    clear hover
    go_wp2_with fail
    go_region
    go_wp2_with fail
    go_end0
    refine ⟨rfl, _, (HCC.out.frame (w' := w4.drew) (fun _ _ _ => rfl)).wider (fun x hx => hx.elim (fun y => .inl y.1) (fun y => .inr (by omega))), ?_, ((Turn.of_below HBW.out).trans ((HT1.out.trans (HT4.out.mono (fun x hx => .inl hx))).mono (fun x hx => .inl hx.1))).drew⟩
    have hl2 := congrArg List.length HM.out
    rw [List.length_map] at hl2
    have hov := HV.out
    unfold putD
    rw [if_neg (by rw [List.length_cons, ← hl2]; exact hov), List.map_cons, HM.out]
    rfl

end Go.Proofs.Yteboancapfgdeaa.IK

/- Proved here: New of a cache; the making of an iterator. -/
namespace Go.Proofs.Yteboancapfgdeaa.IK
open Go.RowKit Go.Proofs.Cc

/-- The new struct, ahead of 'empty'. -/
theorem new_facts (w : World) (n : Nat) (x : Int) (hx : x = (n : Int)) {most : Nat} (hn : n = most) :
    (w.alloc (.cells #[.int .i64 x, .pointer none, .map none] 227)).cell? ⟨w.heap.size, 1, none⟩ = some (.pointer none) ∧
    (w.alloc (.cells #[.int .i64 x, .pointer none, .map none] 227)).cell? ⟨w.heap.size, 2, none⟩ = some (.map none) ∧
    Live (w.alloc (.cells #[.int .i64 x, .pointer none, .map none] 227)) w.heap.size ∧
    ∀ w1, w1 = (emptied (w.alloc (.cells #[.int .i64 x, .pointer none, .map none] 227)) w.heap.size 247 [.int .i64 0, .string ByteArray.empty, .int .i64 0]).drew →
      (∀ S : Nat → Prop, (∀ x, w.heap.size ≤ x → S x) → CacheAt Try.prog 3 kdI kdK w1 w.heap.size S most []) ∧ Below w.heap.size w w1 := by
  subst hx; subst hn
  have hh := (MapKept.heap_alloc w (.cells #[.int .i64 (n : Int), .pointer none, .map none] 227)).1
  have h1 : (w.alloc (.cells #[.int .i64 (n : Int), .pointer none, .map none] 227)).cell? ⟨w.heap.size, 1, none⟩ = some (.pointer none) := by unfold World.cell?; rw [hh]; rfl
  have h2 : (w.alloc (.cells #[.int .i64 (n : Int), .pointer none, .map none] 227)).cell? ⟨w.heap.size, 2, none⟩ = some (.map none) := by unfold World.cell?; rw [hh]; rfl
  have h0 : (w.alloc (.cells #[.int .i64 (n : Int), .pointer none, .map none] 227)).cell? ⟨w.heap.size, 0, none⟩ = some (.int .i64 (n : Int)) := by unfold World.cell?; rw [hh]; rfl
  have hl : Live (w.alloc (.cells #[.int .i64 (n : Int), .pointer none, .map none] 227)) w.heap.size := ⟨_, _, hh⟩
  refine ⟨h1, h2, hl, fun w1 hw => ⟨fun S hS => ?_, ?_⟩⟩
  · exact (cache_emptied (S := fun x => w.heap.size ≤ x) (P := Try.prog) (kT := 3) (KK := kdI) (VK := kdK) h0 h1 h2 hl (Nat.le_refl _) hw).1.wider (fun x hx => hx.elim (hS x) (fun y => hS x (by simp at y; omega)))
  · have hT := (cache_emptied (S := fun x => w.heap.size ≤ x) (P := Try.prog) (kT := 3) (KK := kdI) (VK := kdK) h0 h1 h2 hl (Nat.le_refl _) hw).2
    exact ((Below.refl _ _).alloc (Nat.le_refl _) _).trans (hT.below (by simp) (fun x hx y => by omega))

theorem newIK_any {w : World} (m : Int) :
    Calls Try.prog 63 #[.int .i64 m] w fun ex w' => ex = .returned (.pointer (some ⟨w.heap.size, 0, none⟩)) ∧
      (∀ S : Nat → Prop, (∀ x, w.heap.size ≤ x → S x) → CacheAt Try.prog 3 kdI kdK w' w.heap.size S (clampN m) []) ∧ Below w.heap.size w w' := by
  rcases Int.lt_or_le m 0 with h0 | h0
  · have HK := new_facts w 0 0 rfl (most := clampN m) (by unfold clampN; omega)
    go_enter Try.func63, Try.ntmps63
    go_wp2_with fail
    refine (emptyIK_any w.heap.size _ HK.1 HK.2.1 HK.2.2.1).mono ?_
    rintro ex w1 ⟨rfl, hw1⟩
    have HE := Lib.hid (HK.2.2.2 w1 hw1)
    clear hw1
    go_wp2_with fail
    go_ret
    exact ⟨rfl, HE.out.1, HE.out.2⟩
  · rcases Int.lt_or_le 1048576 m with h1 | h1
    · have HK := new_facts w 1048576 1048576 rfl (most := clampN m) (by unfold clampN; omega)
      go_enter Try.func63, Try.ntmps63
      go_wp2_with fail
      refine (emptyIK_any w.heap.size _ HK.1 HK.2.1 HK.2.2.1).mono ?_
      rintro ex w1 ⟨rfl, hw1⟩
      have HE := Lib.hid (HK.2.2.2 w1 hw1)
      clear hw1
      go_wp2_with fail
      go_ret
      exact ⟨rfl, HE.out.1, HE.out.2⟩
    · have HK := new_facts w (clampN m) m (by unfold clampN; omega) rfl
      go_enter Try.func63, Try.ntmps63
      go_wp2_with fail
      refine (emptyIK_any w.heap.size _ HK.1 HK.2.1 HK.2.2.1).mono ?_
      rintro ex w1 ⟨rfl, hw1⟩
      have HE := Lib.hid (HK.2.2.2 w1 hw1)
      clear hw1
      go_wp2_with fail
      go_ret
      exact ⟨rfl, HE.out.1, HE.out.2⟩

theorem allIK_any {w : World} (c : Nat) :
    Calls Try.prog 97 #[.pointer (some ⟨c, 0, none⟩)] w fun ex w' => ex = .returned (.func (.func 148) #[] #[.pointer (some ⟨w.heap.size, 0, none⟩)]) ∧ w' = w.alloc (.cells #[.pointer (some ⟨c, 0, none⟩)] 42) := by
  go_enter Try.func97, Try.ntmps97
  go_wp2_with fail
  go_ret
  exact ⟨rfl, rfl⟩

end Go.Proofs.Yteboancapfgdeaa.IK

/- Proved here: what a cache's iterator does with a function value that is handed to it. -/
namespace Go.Proofs.Yteboancapfgdeaa.IK
open Go.RowKit Go.Proofs.Cc
attribute [local go_sem ↓] Go.wp_at_zero Go.wp_at_succ

theorem run_neq_ptr_same {P : Program} {w : World} {tp te : TypeId} {j : TypeInfo} (a : Addr) (hp : P.underlying tp = some (.pointer te)) (hte : P.info? te = some j) :
    (binOp .neq tp (.pointer (some a)) (.pointer (some a))).run P w = .ok (.bool false) w := by
  have h : ∀ d : Nat, (Op.equalIn (d + 1) tp (.pointer (some a)) (.pointer (some a))).run P w = .ok true w := fun d => by
    simp [Op.equalIn, run_underlying hp, sizeOf, typeInfo, hte, run_sameAddr_same]
  simp only [binOp]
  simp [Op.equal, Op.maxDepth, h 9999]

theorem run_neq_ptr_other {P : Program} {w : World} {tp te : TypeId} {j : TypeInfo} {a b : Addr} (hp : P.underlying tp = some (.pointer te)) (hte : P.info? te = some j) (hsz : j.size ≠ 0) (hne : a ≠ b) (ha : Live w a.block) (hb : Live w b.block) :
    (binOp .neq tp (.pointer (some a)) (.pointer (some b))).run P w = .ok (.bool true) w := by
  obtain ⟨ca, ta, ha⟩ := ha
  obtain ⟨cb, tb, hb⟩ := hb
  have h : ∀ d : Nat, (Op.equalIn (d + 1) tp (.pointer (some a)) (.pointer (some b))).run P w = .ok false w := fun d => by
    simp [Op.equalIn, run_underlying hp, sizeOf, typeInfo, hte, hsz, run_sameAddr_other w hne ha hb]
  simp only [binOp]
  simp [Op.equal, Op.maxDepth, h 9999]

theorem infoEntIK : ∃ j, Try.prog.info? 247 = some j ∧ j.size ≠ 0 := by
  have h : (Try.prog.info? 247).map (fun i => i.size) = some 5 := by kernel_rfl
  cases hh : Try.prog.info? 247 with
  | none => rw [hh] at h; cases h
  | some j => rw [hh] at h; injection h with h; exact ⟨j, rfl, by have h' : j.size = 5 := h; omega⟩

theorem seg_at {w : World} : ∀ (r : List Nat) (a z k x y : Nat), Seg w a r z → (a :: r)[k]? = some x → (r ++ [z])[k]? = some y → link w x y
  | [], a, z, 0, x, y, h, h1, h2 => by simp at h1 h2; subst h1; subst h2; exact h
  | [], a, z, k + 1, x, y, h, h1, h2 => by simp at h1
  | b :: r, a, z, 0, x, y, h, h1, h2 => by simp at h1 h2; subst h1; subst h2; exact h.1
  | b :: r, a, z, k + 1, x, y, h, h1, h2 => seg_at r b z k x y h.2 (by simpa using h1) (by simpa using h2)

set_option maxRecDepth 100000 in
set_option maxHeartbeats 1000000 in
theorem all1IK_any {w : World} {c : Nat} {S : Nat → Prop} {most : Nat} {E : List (Ent I64 KeyV)} (HC : CacheAt Try.prog 3 kdI kdK w c S most E) (bx : Nat) (hbx : w.cell? ⟨bx, 0, none⟩ = some (.pointer (some ⟨c, 0, none⟩)))
    (g : Nat) (caps : Array Value) (hcall : ∀ args W, (callFunc g args).run Try.prog W = .ok (.enter g args) W) (J : Bool → Nat → World → Prop) (hS : ∀ b n W, J b n W → Same (fun x => S x ∨ x = bx) w W) (hD : ∀ b n W, J b n W → J b n W.drew) (h0 : J true 0 w)
    (hY : ∀ n e W, E[n]? = some e → J true n W → Calls Try.prog g (#[.int .i64 e.key.1, .agg #[.string e.val.name.1, .int .i64 e.val.n.1]] ++ caps) W fun ex W' => ∃ b, ex = .returned (.bool b) ∧ J b (n + 1) W') :
    Calls Try.prog 148 #[.func (.func g) #[] caps, .pointer (some ⟨bx, 0, none⟩)] w fun ex w' => ex = .returned (.tuple #[]) ∧ (J true E.length w' ∨ ∃ n, n ≤ E.length ∧ J false n w') := by
  obtain ⟨b, h, D, C⟩ := HC
  have hc1 := C.head
  have hfirst := seg_first h h _ C.ring
  have hx0 : ∃ x0, (E.map Ent.blk ++ [h])[0]? = some x0 ∧ w.cell? ⟨h, 0, none⟩ = some (.pointer (some ⟨x0, 0, none⟩)) := ⟨_, (by cases E <;> rfl), hfirst.1⟩
  obtain ⟨x0, hx0, hh0⟩ := hx0
  have HX0 := Lib.hid hx0
  have HHC := Lib.hid C
  have HS := Lib.hid hS
  have HD := Lib.hid hD
  have HY := Lib.hid hY
  have H0 := Lib.hid h0
  clear hfirst hx0 hS hD hY h0
  go_enter Try.func148, Try.ntmps148
  go_wp2_with fail
  have HB := Lib.hid hbx
  clear C hc1 hh0 hbx
  go_loopg [3] E.length (fun gg p wr => ∃ k x, k + gg = E.length ∧ p = .pointer (some ⟨x, 0, none⟩) ∧ (E.map Ent.blk ++ [h])[k]? = some x ∧ J true k wr)
  case atStart => exact ⟨0, x0, by omega, rfl, HX0.out, H0.out⟩
  case round =>
    obtain ⟨k, x, hkg, rfl, hx, hJ⟩ := hrel
    have hsame := HS.out _ _ _ hJ
    have C := HHC.out.frame (fun i hi hs => hsame i hi (.inl hs))
    have hb1 := hsame.cell (.inr rfl) HB.out
    have hc1 := C.head
    have HC2 := Lib.hid C
    have HJ := Lib.hid hJ
    have HX := Lib.hid hx
    cases gk with
    | zero =>
      obtain rfl : k = E.length := by omega
      have hxh : x = h := by
        rw [List.getElem?_append_right (by simp)] at hx
        simp at hx
        exact hx.symm
      subst hxh
      obtain ⟨j0, hj0, -⟩ := infoEntIK
      have hneq : (binOp .neq 224 (.pointer (some ⟨x, 0, none⟩)) (.pointer (some ⟨x, 0, none⟩))).run Try.prog wr = .ok (.bool false) wr := run_neq_ptr_same _ Try.underlying224 hj0
      clear hx hJ hsame C hj0 j0
      go_wp2_with fail
      go_end0
      exact ⟨rfl, .inl HJ.out⟩
    | succ gk =>
      have hkl : k < E.length := by omega
      have hE := List.getElem?_eq_getElem hkl
      obtain ⟨e, he⟩ : ∃ e, E[k] = e := ⟨_, rfl⟩
      rw [he] at hE
      have hex : x = e.blk := by
        rw [List.getElem?_append_left (by simp; omega), List.getElem?_map, hE] at hx
        simp at hx
        exact hx.symm
      subst hex
      have hin : e ∈ E := List.mem_of_getElem? hE
      have hne : e.blk ≠ h := fun y => (List.nodup_cons.1 (List.nodup_cons.1 C.nod).2).1 (y ▸ List.mem_map_of_mem hin)
      have e2 : wr.cell? ⟨e.blk, 2, none⟩ = some (.int .i64 e.key.1) := C.ents e hin 0 _ rfl
      have e3 : wr.cell? ⟨e.blk, 3, none⟩ = some (.string e.val.name.1) := C.ents e hin 1 _ rfl
      have e4 : wr.cell? ⟨e.blk, 4, none⟩ = some (.int .i64 e.val.n.1) := C.ents e hin 2 _ rfl
      obtain ⟨j0, hj0, hj1⟩ := infoEntIK
      have hneq : (binOp .neq 224 (.pointer (some ⟨e.blk, 0, none⟩)) (.pointer (some ⟨h, 0, none⟩))).run Try.prog wr = .ok (.bool true) wr := run_neq_ptr_other Try.underlying224 hj0 hj1 (fun y => by injection y with y; exact hne y) (C.live _ (List.mem_cons_of_mem _ (List.mem_map_of_mem hin))) (C.live _ (by simp))
      clear hj0 hj1 j0
      have HE := Lib.hid hE
      have HIN := Lib.hid hin
      clear hx hJ hsame C hE hin he
      go_wp2_with fail
      go_region_held3 (fun w' => w'.cell? ⟨e.blk, 2, none⟩ = some (.int .i64 e.key.1) ∧ w'.cell? ⟨e.blk, 3, none⟩ = some (.string e.val.name.1) ∧ w'.cell? ⟨e.blk, 4, none⟩ = some (.int .i64 e.val.n.1)) (first | go_keep | (exact ⟨((HS.out _ _ _ (by assumption)).cell (.inl (HHC.out.sub.2.2 _ (List.mem_cons_of_mem _ (List.mem_map_of_mem HIN.out)))) (HHC.out.ents e HIN.out 0 _ rfl)), ((HS.out _ _ _ (by assumption)).cell (.inl (HHC.out.sub.2.2 _ (List.mem_cons_of_mem _ (List.mem_map_of_mem HIN.out)))) (HHC.out.ents e HIN.out 1 _ rfl)), ((HS.out _ _ _ (by assumption)).cell (.inl (HHC.out.sub.2.2 _ (List.mem_cons_of_mem _ (List.mem_map_of_mem HIN.out)))) (HHC.out.ents e HIN.out 2 _ rfl))⟩))
        ((refine (HY.out _ _ _ HE.out (HD.out _ _ _ HJ.out)).mono ?_; rintro ex W ⟨bb, rfl, hJ1⟩))
      cases bb with
      | false =>
        go_wp2_with fail
        first | refine bodyPost_ret (results_none rfl _ _ _) rfl ?_ | (repeat (first | rw [Exit.noGoto_ret] | simp only [Exit.inBlock] | simp only [Exit.then]); refine bodyPost_ret (results_none rfl _ _ _) rfl ?_)
        exact ⟨rfl, .inr ⟨k + 1, by omega, hJ1⟩⟩
      | true =>
        have hsame1 := HS.out _ _ _ hJ1
        have C1 := HHC.out.frame (fun i hi hs => hsame1 i hi (.inl hs))
        have hlt1 : k + 1 < (E.map Ent.blk ++ [h]).length := by simp; omega
        obtain ⟨y, hy⟩ : ∃ y, (E.map Ent.blk ++ [h])[k + 1]? = some y := ⟨_, List.getElem?_eq_getElem hlt1⟩
        have hek : (h :: E.map Ent.blk)[k + 1]? = some e.blk := by
          rw [List.getElem?_cons_succ, List.getElem?_map, HE.out]; rfl
        have hnext := (seg_at _ _ _ _ _ _ C1.ring hek hy).1
        have HYY := Lib.hid hy
        have HJ1 := Lib.hid hJ1
        clear hsame1 C1 hlt1 hy hek hJ1
        go_wp2_with fail
        go_roundg gk
        case measure => omega
        case rel => exact ⟨k + 1, y, by omega, rfl, HYY.out, HJ1.out⟩

end Go.Proofs.Yteboancapfgdeaa.IK

/- Proved here: given, what an iterator gives, numbered. -/
namespace Go.Proofs.Yteboancapfgdeaa.IK
open Go.RowKit Go.Proofs.Cc Go.Proofs.Rg
attribute [local go_sem ↓] Go.wp_at_zero Go.wp_at_succ

/-- The entries, numbered. -/
def codeE {K V : Type} [DecidableEq K] [DecidableEq V] (KL : List K) (VL : List V) (E : List (Ent K V)) : List (Int × Int) := E.map (fun e => (((idx KL e.key : Nat) : Int), ((idx VL e.val : Nat) : Int)))

/-- The cells that given$1 works in. -/
structure GivenAt (w0 : World) (be bw bo bn : Nat) (T : List (Int × Int)) (N : Int) (b : Bool) (n : Nat) (W : World) : Prop where
  turn : Turn (fun x => x = be ∨ x = bo) w0 W
  ended : W.cell? ⟨be, 0, none⟩ = some (.bool (!b))
  well : W.cell? ⟨bw, 0, none⟩ = some (.bool true)
  num : W.cell? ⟨bn, 0, none⟩ = some (.int .i64 N)
  out : ∃ v, W.cell? ⟨bo, 0, none⟩ = some v ∧ W.ownsRow w0.heap.size 120 2 v n (rows (T.take n))
  liveE : Live W be
  liveO : Live W bo
  le : n ≤ T.length
  no : b = true → ∀ j : Nat, 1 ≤ j → j ≤ n → (j : Int) ≠ N
  yes : b = false → (n : Int) = N

theorem cell_news (w : World) (cs : Array Value) (t : TypeId) : ∀ j u, cs.toList[j]? = some u → (w.alloc (.cells cs t)).cell? ((⟨w.heap.size, 0, none⟩ : Addr).add j) = some u := by
  intro j u hj
  rw [add_at]
  have hh := (MapKept.heap_alloc w (.cells cs t)).1
  unfold World.cell?
  simp only
  rw [hh]
  simpa using hj

theorem after_cell {W w1 : World} {o : Obj} {row : Option Nat} {a : Addr} {u : Value} (h : W.cell? a = some u) (hg : (W.alloc o).grownBy w1 row) (hne : some a.block ≠ row) : w1.cell? a = some u :=
  hg.cell ((World.cell?_of_block (w := W) (Below.heap_alloc W o _ (World.block_lt_of_cell? W a h))).trans h) hne

theorem after_live {W w1 : World} {o : Obj} {row : Option Nat} {b : Nat} (h : Live W b) (hg : (W.alloc o).grownBy w1 row) (hne : some b ≠ row) : Live w1 b := by
  have hl := h.lt
  obtain ⟨cs, t, h⟩ := h
  exact ⟨cs, t, (hg.block b (by simp; omega) hne).trans ((Below.heap_alloc W o b hl).trans h)⟩

theorem given_next {w0 W w1 : World} {be bw bo bn : Nat} {T : List (Int × Int)} {N : Int} {n g cap : Nat} {o : Obj} {a1 : Option Addr} {c1 : Nat} {q : Int × Int} (hG : GivenAt w0 be bw bo bn T N true n W) (heo : be ≠ bo)
    (hlt : be < w0.heap.size ∧ bo < w0.heap.size ∧ bw < w0.heap.size ∧ bn < w0.heap.size) (hd : bw ≠ be ∧ bw ≠ bo ∧ bn ≠ be ∧ bn ≠ bo) (hT : T[n]? = some q) (hv : ∀ x, (Value.slice a1 n c1).ownBlock = some x → w0.heap.size ≤ x)
    (hgrow : (W.alloc o).grownBy w1 (Value.slice a1 n c1).ownBlock) (hown : w1.ownsRow w0.heap.size 120 2 (.slice (some ⟨g, 0, none⟩) (n + 1) cap) (n + 1) (rows (T.take n) ++ [.int .i64 q.1, .int .i64 q.2])) :
    (w1.setCell ⟨bo, 0, none⟩ (.slice (some ⟨g, 0, none⟩) (n + 1) cap)).cell? ⟨bo, 0, none⟩ = some (.slice (some ⟨g, 0, none⟩) (n + 1) cap) ∧
    (w1.setCell ⟨bo, 0, none⟩ (.slice (some ⟨g, 0, none⟩) (n + 1) cap)).cell? ⟨bn, 0, none⟩ = some (.int .i64 N) ∧
    (w1.setCell ⟨bo, 0, none⟩ (.slice (some ⟨g, 0, none⟩) (n + 1) cap)).cell? ⟨be, 0, none⟩ = some (.bool false) ∧
    Live (w1.setCell ⟨bo, 0, none⟩ (.slice (some ⟨g, 0, none⟩) (n + 1) cap)) be ∧
    ∀ x : Bool, x = ((n : Int) + 1 == N) → GivenAt w0 be bw bo bn T N (!x) (n + 1) ((w1.setCell ⟨bo, 0, none⟩ (.slice (some ⟨g, 0, none⟩) (n + 1) cap)).setCell ⟨be, 0, none⟩ (.bool x)) := by
  have ne : ∀ b, b < w0.heap.size → some b ≠ (Value.slice a1 n c1).ownBlock := fun b hb e => by have := hv b e.symm; omega
  obtain ⟨u, ho, -⟩ := hG.out
  have o1 := after_cell ho hgrow (ne _ hlt.2.1)
  have n1 := after_cell hG.num hgrow (ne _ hlt.2.2.2)
  have e1 := after_cell hG.ended hgrow (ne _ hlt.1)
  have w1c := after_cell hG.well hgrow (ne _ hlt.2.2.1)
  have le1 := (after_live hG.liveE hgrow (ne _ hlt.1)).setCell ⟨bo, 0, none⟩ (.slice (some ⟨g, 0, none⟩) (n + 1) cap)
  have lo1 := (after_live hG.liveO hgrow (ne _ hlt.2.1)).setCell ⟨bo, 0, none⟩ (.slice (some ⟨g, 0, none⟩) (n + 1) cap)
  have hgl := (hown.lt g rfl).1
  have hnl : n < T.length := (List.getElem?_eq_some_iff.1 hT).1
  refine ⟨cell_set_same o1, (cell_set_other (.inl (Ne.symm hd.2.2.2))).trans n1, (cell_set_other (.inl (Ne.symm heo))).trans e1, le1, fun x hx => ⟨?_, ?_, ?_, ?_, ?_, ?_, ?_, by omega, ?_, ?_⟩⟩
  · refine Turn.setCell (Turn.setCell ((hG.turn.alloc _).grown hgrow (fun b e => .inr (hv b e))) (.inl (.inr rfl)) _) (.inl (.inl rfl)) _
  · rw [Bool.not_not]
    exact cell_set_same ((cell_set_other (.inl (Ne.symm heo))).trans e1)
  · rw [cell_set_other (.inl (Ne.symm hd.1)), cell_set_other (.inl (Ne.symm hd.2.1))]; exact w1c
  · rw [cell_set_other (.inl (Ne.symm hd.2.2.1)), cell_set_other (.inl (Ne.symm hd.2.2.2))]; exact n1
  · refine ⟨.slice (some ⟨g, 0, none⟩) (n + 1) cap, by rw [cell_set_other (.inl heo)]; exact cell_set_same o1, ?_⟩
    have hr : rows (T.take n) ++ [.int .i64 q.1, .int .i64 q.2] = rows (T.take (n + 1)) := by rw [List.take_add_one, hT, rows_app]; rfl
    rw [← hr]
    have hset : ∀ (w : World) (b : Nat) (u : Value), b < w0.heap.size → w.ownsRow w0.heap.size 120 2 (.slice (some ⟨g, 0, none⟩) (n + 1) cap) (n + 1) (rows (T.take n) ++ [.int .i64 q.1, .int .i64 q.2]) → (w.setCell ⟨b, 0, none⟩ u).ownsRow w0.heap.size 120 2 (.slice (some ⟨g, 0, none⟩) (n + 1) cap) (n + 1) (rows (T.take n) ++ [.int .i64 q.1, .int .i64 q.2]) :=
      fun w b u hb h => ownsRow_setCell_below h (a := ⟨b, 0, none⟩) hb u
    exact hset _ _ _ hlt.1 (hset _ _ _ hlt.2.1 hown)
  · exact le1.setCell _ _
  · exact lo1.setCell _ _
  · intro hx2 j h1 h2
    have hxf : x = false := by simpa using hx2
    rw [hxf] at hx
    have hne : (n : Int) + 1 ≠ N := by intro e; rw [e] at hx; simp at hx
    by_cases hj : j ≤ n
    · exact hG.no rfl j h1 hj
    · have : j = n + 1 := by omega
      subst this
      exact fun e => hne (by rw [← e]; omega)
  · intro hx2
    have hxt : x = true := by simpa using hx2
    rw [hxt] at hx
    have := beq_iff_eq.1 hx.symm
    omega

theorem GivenAt.below {w0 W W1 : World} {be bw bo bn : Nat} {T : List (Int × Int)} {N : Int} {b : Bool} {n : Nat} (h : GivenAt w0 be bw bo bn T N b n W) (hb : Below W.heap.size W W1) : GivenAt w0 be bw bo bn T N b n W1 := by
  have cl : ∀ b o u, W.cell? ⟨b, o, none⟩ = some u → W1.cell? ⟨b, o, none⟩ = some u := fun b o u hu => (hb.cell (World.block_lt_of_cell? W _ hu)).trans hu
  obtain ⟨v, h1, h2⟩ := h.out
  exact ⟨h.turn.trans (Turn.of_below hb), cl _ _ _ h.ended, cl _ _ _ h.well, cl _ _ _ h.num, ⟨v, cl _ _ _ h1, ownsRow_same h2 (Below.toSame hb (S := fun _ => True)) (fun _ _ => trivial)⟩,
    (Below.toSame hb (S := fun _ => True)).live trivial h.liveE, (Below.toSame hb (S := fun _ => True)).live trivial h.liveO, h.le, h.no, h.yes⟩

set_option maxRecDepth 100000 in
set_option maxHeartbeats 4000000 in
theorem given1IK_any {w0 : World} {be bw bo bn bp kp vp : Nat} {T : List (Int × Int)} {N : Int} {n : Nat} {W0 : World} (hG0 : GivenAt w0 be bw bo bn T N true n W0) (heo : be ≠ bo) (hlt : be < w0.heap.size ∧ bo < w0.heap.size ∧ bw < w0.heap.size ∧ bn < w0.heap.size ∧ bp < w0.heap.size)
    (hd : bw ≠ be ∧ bw ≠ bo ∧ bn ≠ be ∧ bn ≠ bo ∧ bp ≠ be ∧ bp ≠ bo) {SK SV : Nat → Prop} {KL : List I64} {VL : List KeyV} (HK0 : CodesAt 3 1 kdI zeroI W0 kp SK KL) (HV0 : CodesAt 31 2 kdK zeroK W0 vp SV VL)
    (hpk0 : W0.cell? ⟨bp, 2, none⟩ = some (.pointer (some ⟨kp, 0, none⟩))) (hpv0 : W0.cell? ⟨bp, 3, none⟩ = some (.pointer (some ⟨vp, 0, none⟩))) (k : I64) (v : KeyV) (hk : k ∈ KL) (hv : v ∈ VL) (hT : T[n]? = some (((idx KL k : Nat) : Int), ((idx VL v : Nat) : Int))) (hlen : T.length ≤ 1048576) :
    Calls Try.prog 149 (#[.int .i64 k.1, .agg #[.string v.name.1, .int .i64 v.n.1]] ++ #[.pointer (some ⟨be, 0, none⟩), .pointer (some ⟨bw, 0, none⟩), .pointer (some ⟨bo, 0, none⟩), .pointer (some ⟨bp, 0, none⟩), .pointer (some ⟨bn, 0, none⟩)]) W0
      fun ex W' => ∃ b, ex = .returned (.bool b) ∧ GivenAt w0 be bw bo bn T N b (n + 1) W' := by
  obtain ⟨i0, hi, hz0, hz1, hz2⟩ := info_parts infoEntry
  have H0 := Lib.hid hG0
  have HKD0 := Lib.hid HK0
  have HVD0 := Lib.hid HV0
  have Hk := Lib.hid hk
  have Hv := Lib.hid hv
  have HP := Lib.hid (And.intro hpk0 hpv0)
  have hnl : n < T.length := (List.getElem?_eq_some_iff.1 hT).1
  have HTT := Lib.hid hT
  have hbase0 : w0.heap.size ≤ W0.heap.size := hG0.turn.size
  clear hG0 HK0 HV0 hk hv hpk0 hpv0 hT
  simp only [List.append_toArray, List.cons_append, List.nil_append]
  go_enter Try.func149, Try.ntmps149
  go_upto_region 1 with fail
  generalize hW : W0.alloc (.cells #[.string v.name.1, .int .i64 v.n.1] 31) = W
  obtain ⟨hbw, hsz, x0, x1⟩ := box2 W0 _ _ _ hW
  have cl0 : ∀ b o u, W0.cell? ⟨b, o, none⟩ = some u → W.cell? ⟨b, o, none⟩ = some u := fun b o u hu => (hbw.cell (World.block_lt_of_cell? W0 _ hu)).trans hu
  have HG := Lib.hid (H0.out.below hbw)
  have HKD := Lib.hid (HKD0.out.frame (Below.toSame hbw))
  have HVD := Lib.hid (HVD0.out.frame (Below.toSame hbw))
  have hpk := cl0 _ _ _ HP.out.1
  have hpv := cl0 _ _ _ HP.out.2
  have he := HG.out.ended
  have hbase : w0.heap.size ≤ W.heap.size := by omega
  obtain ⟨u, ho, hown⟩ := HG.out.out
  obtain ⟨a1, c1, rfl⟩ := owns_shape hown
  have HOWN := Lib.hid hown
  clear hW hbw cl0 hown H0 HKD0 HVD0 HP
  go_wp2_with fail
  have z0 := regr_cell x0
  have z1 := regr_cell x1
  have z2 := regr_cell hpk
  have z3 := regr_cell hpv
  have z4 := regr_cell ho
  refine wp_region_norm_below [1, 3, 5] [0, 2, 6, 7] [4, 8, 9] [10, 11, 12] [11, 12] (by kernel_rfl) (by kernel_rfl) (fun _ _ d _ _ h => by cases d <;> exact h) ?_
  simp only [pick, List.filterMap_cons, List.filterMap_nil, List.getElem?_toArray, List.getElem?_cons_zero, List.getElem?_cons_succ]
  repeat (first | (with_reducible refine wpQuiet_nil ?_) | quiet_step (first
    | (go_at_call 66; exact Calls.regrown_of (ofK_q (HVD.out.frame (Below.toSame (below_regrown W _ _))) v Hv.out))
    | (go_at_call 46; exact Calls.regrown_of ((ofI_q (HKD.out.frame (Below.toSame (below_regrown W _ _))) k Hk.out).mono fun _ _ h => ⟨h.1, by rw [h.2]; exact Below.refl _ _⟩))))
  intro V1 hV1
  change wpList _ _ _ _ _ V1
  have HG1 := Lib.hid (HG.out.below hV1)
  have ho1 := (hV1.cell (World.block_lt_of_cell? W _ ho)).trans ho
  have hown1 := ownsRow_same HOWN.out (Below.toSame hV1 (S := fun _ => True)) (fun _ _ => trivial)
  have hb1 : w0.heap.size ≤ V1.heap.size := Nat.le_trans hbase hV1.size
  have hfo := HG1.out.liveO.frozen 0 none
  clear hV1 z0 z1 z2 z3 z4 x0 x1 hpk hpv ho he hbase
  refine wpList_plain rfl (fun K hK => ?_)
  go_simp
  refine hK _ _ ?_
  clear hK K
  refine wpList_append_own_at _ rfl _ _ 107 rfl w0.heap.size 120 i0 (.agg #[.int .i64 0, .int .i64 0]) 2 16 Try.underlying107 hi hz0 hz1 hz2 rfl (by decide) _ _ _ rfl (hown1.alloc _) ⟨V1.heap.size, 0, none⟩ 1 1 [.int .i64 ((idx KL k : Nat) : Int), .int .i64 ((idx VL v : Nat) : Int)] rfl rfl ?c2 ?c3 ?c4 ?c5 ?c6 ?_
  case c2 => exact cell_newsB _ _ _
  case c3 => simp [Value.oneCell']
  case c4 => unfold maxLen; omega
  case c5 => omega
  case c6 => simp; omega
  intro v' w1 hown2 hgrow _ hob
  obtain ⟨g, cap, rfl⟩ := owns_some hown2
  have hN := given_next HG1.out heo ⟨hlt.1, hlt.2.1, hlt.2.2.1, hlt.2.2.2.1⟩ ⟨hd.1, hd.2.1, hd.2.2.1, hd.2.2.2.1⟩ HTT.out (fun x e => (hown1.lt x e).1) hgrow hown2
  have HNE := Lib.hid (show some bo ≠ (Value.slice a1 n c1).ownBlock from fun e => by have := (hown1.lt bo e.symm).1; omega)
  have ho2 := after_cell ho1 hgrow HNE.out
  have hfo2 := (after_live HG1.out.liveO hgrow HNE.out).frozen 0 none
  obtain ⟨w3, hw3⟩ : ∃ w3, w1.setCell ⟨bo, 0, none⟩ (.slice (some ⟨g, 0, none⟩) (n + 1) cap) = w3 := ⟨_, rfl⟩
  rw [hw3] at hN
  obtain ⟨c1', c2', c3', c4', hN⟩ := hN
  have hfe3 := c4'.frozen 0 none
  have HN := Lib.hid hN
  have HW3 := Lib.hid hw3
  clear hN c4' hown1 hgrow hown2 hob hw3 ho1 hfo
  go_upto_region 5 with fail
  rw [HW3.out]
  clear HW3
  go_wp2_with fail
  go_ret
  exact ⟨_, rfl, HN.out _ rfl⟩

end Go.Proofs.Yteboancapfgdeaa.IK

/- Proved here: given, what an iterator gives, numbered, at most n entries. -/
namespace Go.Proofs.Yteboancapfgdeaa.IK
open Go.RowKit Go.Proofs.Cc

/-- What is told of at most n entries. -/
def upTo {α : Type} (N : Int) (T : List α) : List α := if N < 0 then T else T.take N.toNat

/-- A pair's iterator over a cache whose keys and values are numbered. -/
structure ReadyAt (w : World) (c bx kp vp : Nat) (SC SK SV : Nat → Prop) (most : Nat) (E : List (Ent I64 KeyV)) (KL : List I64) (VL : List KeyV) : Prop where
  cache : CacheAt Try.prog 3 kdI kdK w c SC most E
  box : w.cell? ⟨bx, 0, none⟩ = some (.pointer (some ⟨c, 0, none⟩))
  keys : CodesAt 3 1 kdI zeroI w kp SK KL
  vals : CodesAt 31 2 kdK zeroK w vp SV VL
  key : ∀ e ∈ E, e.key ∈ KL
  val : ∀ e ∈ E, e.val ∈ VL
  len : E.length ≤ 1048576

theorem ReadyAt.below {w w' : World} {c bx kp vp most : Nat} {SC SK SV : Nat → Prop} {E : List (Ent I64 KeyV)} {KL : List I64} {VL : List KeyV} (R : ReadyAt w c bx kp vp SC SK SV most E KL VL) (hb : Below w.heap.size w w') : ReadyAt w' c bx kp vp SC SK SV most E KL VL :=
  ⟨R.cache.frame (Below.toSame hb), (hb.cell (World.block_lt_of_cell? w _ R.box)).trans R.box, R.keys.frame (Below.toSame hb), R.vals.frame (Below.toSame hb), R.key, R.val, R.len⟩

theorem CacheAt.tight {K V : Type} [DecidableEq K] {P : Program} {kT : TypeId} {KK : Kd K} {VK : Kd V} {w : World} {c most : Nat} {S : Nat → Prop} {E : List (Ent K V)} (C : CacheAt P kT KK VK w c S most E) : CacheAt P kT KK VK w c (fun x => S x ∧ x < w.heap.size) most E := by
  obtain ⟨b, h, D, C⟩ := C
  exact ⟨b, h, D, { C with sub := ⟨⟨C.sub.1, C.liveC.lt⟩, ⟨C.sub.2.1, C.own.lt⟩, fun x hx => ⟨C.sub.2.2 x hx, (C.live x hx).lt⟩⟩ }⟩

theorem CodesAt.tight {K : Type} [DecidableEq K] {eT sz : Nat} {KK : Kd K} {zero : K} {w : World} {k : Nat} {S : Nat → Prop} {L : List K} (R : CodesAt eT sz KK zero w k S L) : CodesAt eT sz KK zero w k (fun x => S x ∧ x < w.heap.size) L := by
  obtain ⟨⟨v, h1, h2, h3⟩, h4, h5, h6⟩ := R
  exact ⟨⟨v, h1, h2, fun g hg => ⟨⟨(h3 g hg).1, (h2.lt g hg).2⟩, (h3 g hg).2⟩⟩, h4, ⟨h5, h4.lt⟩, h6⟩

theorem owns_base {w : World} {base base' e size n : Nat} {v : Value} {xs : List Value} (h : w.ownsRow base e size v n xs) (hb : base' ≤ base) : w.ownsRow base' e size v n xs := by
  obtain ⟨h1, h2⟩ := h
  refine ⟨h1, ?_⟩
  rcases h2 with h2 | ⟨g, cap, cur, e1, hg, r⟩
  · exact .inl h2
  · exact .inr ⟨g, cap, cur, e1, Nat.le_trans hb hg, r⟩

theorem GivenAt.drew {w0 W : World} {be bw bo bn : Nat} {T : List (Int × Int)} {N : Int} {b : Bool} {n : Nat} (h : GivenAt w0 be bw bo bn T N b n W) : GivenAt w0 be bw bo bn T N b n W.drew :=
  ⟨h.turn.drew, h.ended, h.well, h.num, h.out, h.liveE, h.liveO, h.le, h.no, h.yes⟩

theorem upTo_all {α : Type} {N : Int} {T : List α} (hN : N ≠ 0) (h : ∀ j : Nat, 1 ≤ j → j ≤ T.length → (j : Int) ≠ N) : upTo N T = T := by
  unfold upTo
  split
  · rfl
  · rw [List.take_of_length_le]
    have := h N.toNat
    omega

theorem upTo_some {α : Type} {N : Int} {T : List α} {n : Nat} (h : (n : Int) = N) : upTo N T = T.take n := by
  unfold upTo
  rw [if_neg (by omega)]
  congr 1
  omega

theorem func_not_nil (f : Fn) (b c : Array Value) (W : World) : (binOp .eql 165 (.func f b c) .nilFunc).run Try.prog W = .ok (.bool false) W := by
  have h : ∀ d : Nat, (Op.equalIn (d + 1) 165 (.func f b c) .nilFunc).run Try.prog W = .ok false W := fun d => by
    simp [Op.equalIn, run_underlying Try.underlying165]
  simp only [binOp]
  simp [Op.equal, Op.maxDepth, h 9999]

theorem call_given1 (args : Array Value) (W : World) : (callFunc 149 args).run Try.prog W = .ok (.enter 149 args) W := by go_simp

/-- The cells that given lays. -/
theorem given_boxes (w : World) (c mp kp vp : Nat) (N : Int) {w0 : World} {t1 t2 t3 t4 t5 : TypeId} (h : (((((w.alloc (.cells #[.pointer (some ⟨c, 0, none⟩), .pointer (some ⟨mp, 0, none⟩), .pointer (some ⟨kp, 0, none⟩), .pointer (some ⟨vp, 0, none⟩)] t1)).alloc (.cells #[.int .i64 N] t2)).alloc
      (.cells #[.slice none 0 0] t3)).alloc (.cells #[.bool true] t4)).alloc (.cells #[.bool false] t5)) = w0) :
    Below w.heap.size w w0 ∧ w0.heap.size = w.heap.size + 5 ∧ w0.cell? ⟨w.heap.size, 2, none⟩ = some (.pointer (some ⟨kp, 0, none⟩)) ∧ w0.cell? ⟨w.heap.size, 3, none⟩ = some (.pointer (some ⟨vp, 0, none⟩)) ∧
    w0.cell? ⟨w.heap.size + 1, 0, none⟩ = some (.int .i64 N) ∧ w0.cell? ⟨w.heap.size + 1 + 1, 0, none⟩ = some (.slice none 0 0) ∧ w0.cell? ⟨w.heap.size + 1 + 1 + 1, 0, none⟩ = some (.bool true) ∧ w0.cell? ⟨w.heap.size + 1 + 1 + 1 + 1, 0, none⟩ = some (.bool false) ∧
    Live w0 (w.heap.size + 1 + 1 + 1 + 1) ∧ Live w0 (w.heap.size + 1 + 1) := by
  have at' : ∀ (l : List Obj) (i : Nat) (o : Obj), l[i]? = some o → (l.foldl (fun a o => a.alloc o) w).heap[w.heap.size + i]? = some o := by
    intro l
    have gen : ∀ (l : List Obj) (v : World) (i : Nat) (o : Obj), l[i]? = some o → (l.foldl (fun a o => a.alloc o) v).heap[v.heap.size + i]? = some o := by
      intro l
      induction l with
      | nil => intro v i o h; simp at h
      | cons a l ih =>
        intro v i o h
        cases i with
        | zero =>
          simp at h
          subst h
          have keep : ∀ (l : List Obj) (u : World) (k : Nat) (x : Obj), u.heap[k]? = some x → (l.foldl (fun a o => a.alloc o) u).heap[k]? = some x := by
            intro l
            induction l with
            | nil => intro u k x h; exact h
            | cons b l ih2 => intro u k x h; exact ih2 _ k x ((Below.heap_alloc u b k (Array.getElem?_eq_some_iff.1 h).1).trans h)
          exact keep l _ _ _ (MapKept.heap_alloc v a).1
        | succ i =>
          have := ih (v.alloc a) i o (by simpa using h)
          have e : (v.alloc a).heap.size + i = v.heap.size + (i + 1) := by simp; omega
          rw [e] at this
          exact this
    exact gen l w
  have k0 := at' [.cells #[.pointer (some ⟨c, 0, none⟩), .pointer (some ⟨mp, 0, none⟩), .pointer (some ⟨kp, 0, none⟩), .pointer (some ⟨vp, 0, none⟩)] t1, .cells #[.int .i64 N] t2, .cells #[.slice none 0 0] t3, .cells #[.bool true] t4, .cells #[.bool false] t5]
  simp only [List.foldl_cons, List.foldl_nil, h] at k0
  have g0 := k0 0 _ rfl
  have g1 := k0 1 _ rfl
  have g2 := k0 2 _ rfl
  have g3 := k0 3 _ rfl
  have g4 := k0 4 _ rfl
  rw [Nat.add_zero] at g0
  refine ⟨?_, by rw [← h]; simp, by unfold World.cell?; simp only; rw [g0]; rfl, by unfold World.cell?; simp only; rw [g0]; rfl, by unfold World.cell?; simp only; rw [g1]; rfl, by unfold World.cell?; simp only; rw [show w.heap.size + 1 + 1 = w.heap.size + 2 from rfl, g2]; rfl,
    by unfold World.cell?; simp only; rw [show w.heap.size + 1 + 1 + 1 = w.heap.size + 3 from rfl, g3]; rfl, by unfold World.cell?; simp only; rw [show w.heap.size + 1 + 1 + 1 + 1 = w.heap.size + 4 from rfl, g4]; rfl, ⟨_, _, g4⟩, ⟨_, _, g2⟩⟩
  rw [← h]
  exact (((((Below.refl _ w).alloc (Nat.le_refl _) _).alloc (by simp) _).alloc (by simp; omega) _).alloc (by simp; omega) _).alloc (by simp; omega) _

set_option maxRecDepth 100000 in
set_option maxHeartbeats 2000000 in
theorem givenIK_any {w : World} {c bx kp vp mp most : Nat} {SC SK SV : Nat → Prop} {E : List (Ent I64 KeyV)} {KL : List I64} {VL : List KeyV} (R : ReadyAt w c bx kp vp SC SK SV most E KL VL) (N : Int) :
    Calls Try.prog 98 #[.agg #[.pointer (some ⟨c, 0, none⟩), .pointer (some ⟨mp, 0, none⟩), .pointer (some ⟨kp, 0, none⟩), .pointer (some ⟨vp, 0, none⟩)], .func (.func 148) #[] #[.pointer (some ⟨bx, 0, none⟩)], .int .i64 N] w
      fun ex w' => ∃ v, ex = .returned (.tuple #[v, .bool true]) ∧ w'.ownsRow w.heap.size 120 2 v (upTo N (codeE KL VL E)).length (rows (upTo N (codeE KL VL E))) ∧ Below w.heap.size w w' := by
  have HR := Lib.hid R
  have hnf := func_not_nil
  by_cases hN : N = 0
  · subst hN
    clear R
    go_enter Try.func98, Try.ntmps98
    go_wp2_with fail
    refine bodyPost_ret (results_tmp2 rfl _ _ _) rfl ?_
    exact ⟨_, rfl, World.ownsRow_nil _ _ _ _, ((Below.refl _ _).alloc (Nat.le_refl _) _).alloc (by simp) _⟩
  · have hNz : (N == 0) = false := by rw [beq_eq_false_iff_ne]; exact hN
    have HN := Lib.hid hN
    clear R hN
    go_enter Try.func98, Try.ntmps98
    go_wp2_with fail
    generalize hw0 : (((((w.alloc (.cells #[.pointer (some ⟨c, 0, none⟩), .pointer (some ⟨mp, 0, none⟩), .pointer (some ⟨kp, 0, none⟩), .pointer (some ⟨vp, 0, none⟩)] 44)).alloc (.cells #[.int .i64 N] 3)).alloc
      (.cells #[.slice none 0 0] 107)).alloc (.cells #[.bool true] 4)).alloc (.cells #[.bool false] 4)) = w0
    obtain ⟨hb0, hs0, p2, p3, n0, o0, wl0, e0, le0, lo0⟩ := given_boxes w c mp kp vp N hw0
    have R0 := HR.out.below hb0
    have hsz : w.heap.size ≤ w0.heap.size := by omega
    have hci : ∀ x, x < w.heap.size → ¬(x = w.heap.size + 1 + 1 + 1 + 1 ∨ x = w.heap.size + 1 + 1) := by intro x hx; omega
    have hCw := (CacheAt.tight HR.out.cache).frame (Below.toSame hb0)
    have hKw := (CodesAt.tight HR.out.keys).frame (Below.toSame hb0)
    have hVw := (CodesAt.tight HR.out.vals).frame (Below.toSame hb0)
    have hbxlt : bx < w.heap.size := World.block_lt_of_cell? w _ HR.out.box
    refine (all1IK_any hCw bx R0.box 149 _ (fun args W => call_given1 args W) (fun b n W => GivenAt w0 (w.heap.size + 1 + 1 + 1 + 1) (w.heap.size + 1 + 1 + 1) (w.heap.size + 1 + 1) (w.heap.size + 1) (codeE KL VL E) N b n W) ?_ (fun _ _ _ h => h.drew) ?_ ?_).mono ?_
    · intro b n W hJ x hx hT
      refine hJ.turn.block x hx ?_
      rcases hT with hT | rfl
      · exact hci x hT.2
      · exact hci x hbxlt
    · refine ⟨Turn.refl _ _, e0, wl0, n0, ⟨_, o0, World.ownsRow_nil _ _ _ _⟩, le0, lo0, Nat.zero_le _, fun _ j h1 h2 => by omega, fun h => by cases h⟩
    · intro n e W hE hJ
      have hin : e ∈ E := List.mem_of_getElem? hE
      have hsame : ∀ S : Nat → Prop, (∀ x, S x → x < w.heap.size) → Same S w0 W := fun S hS x hx hs => hJ.turn.block x hx (hci x (hS x hs))
      have hcp : ∀ o u, w0.cell? ⟨w.heap.size, o, none⟩ = some u → W.cell? ⟨w.heap.size, o, none⟩ = some u := fun o u hu => by
        rw [← hu]
        exact World.cell?_of_block (w := w0) (a := ⟨w.heap.size, o, none⟩) (hJ.turn.block _ (by show w.heap.size < w0.heap.size; omega) (by show ¬(w.heap.size = _ ∨ w.heap.size = _); omega))
      exact given1IK_any (bp := w.heap.size) (kp := kp) (vp := vp) hJ (by omega) ⟨by omega, by omega, by omega, by omega, by omega⟩ ⟨by omega, by omega, by omega, by omega, by omega, by omega⟩ (hKw.frame (hsame _ (fun x h => h.2))) (hVw.frame (hsame _ (fun x h => h.2)))
        (hcp _ _ p2) (hcp _ _ p3) e.key e.val (HR.out.key e hin) (HR.out.val e hin) (by unfold codeE; rw [List.getElem?_map, hE]; rfl) (by unfold codeE; rw [List.length_map]; exact HR.out.len)
    · have hTl : (codeE KL VL E).length = E.length := by unfold codeE; simp
      have fin : ∀ b n W, GivenAt w0 (w.heap.size + 1 + 1 + 1 + 1) (w.heap.size + 1 + 1 + 1) (w.heap.size + 1 + 1) (w.heap.size + 1) (codeE KL VL E) N b n W → (b = true → n = E.length) →
          ∃ v, W.cell? ⟨w.heap.size + 1 + 1, 0, none⟩ = some v ∧ W.cell? ⟨w.heap.size + 1 + 1 + 1, 0, none⟩ = some (.bool true) ∧ W.ownsRow w.heap.size 120 2 v (upTo N (codeE KL VL E)).length (rows (upTo N (codeE KL VL E))) ∧ Below w.heap.size w W := by
        intro b n W hJ hb
        obtain ⟨v, h1, h2⟩ := hJ.out
        have hup : upTo N (codeE KL VL E) = (codeE KL VL E).take n := by
          cases b with
          | true =>
            have hn := hb rfl
            rw [upTo_all HN.out (fun j h1 h2 => hJ.no rfl j h1 (by omega)), List.take_of_length_le (by omega)]
          | false => exact upTo_some (hJ.yes rfl)
        have hl : (upTo N (codeE KL VL E)).length = n := by rw [hup, List.length_take]; have := hJ.le; omega
        refine ⟨v, h1, hJ.well, ?_, hb0.trans (hJ.turn.below hsz hci)⟩
        rw [hl, hup]
        exact owns_base h2 hsz
      rintro ex W ⟨rfl, hJ⟩
      have hfin : ∃ v, W.cell? ⟨w.heap.size + 1 + 1, 0, none⟩ = some v ∧ W.cell? ⟨w.heap.size + 1 + 1 + 1, 0, none⟩ = some (.bool true) ∧ W.ownsRow w.heap.size 120 2 v (upTo N (codeE KL VL E)).length (rows (upTo N (codeE KL VL E))) ∧ Below w.heap.size w W := by
        rcases hJ with hJ | ⟨n, hn, hJ⟩
        · exact fin _ _ _ hJ (fun _ => rfl)
        · exact fin _ _ _ hJ (fun h => by cases h)
      obtain ⟨v, h1, h2, h3, h4⟩ := hfin
      obtain ⟨a1, c1, rfl⟩ := owns_shape h3
      have H3 := Lib.hid h3
      have H4 := Lib.hid h4
      clear hJ fin h3 h4 R0 hCw hKw hVw e0 wl0 n0 o0 p2 p3 hw0
      go_wp2_with fail
      go_region
      go_wp2_with fail
      refine bodyPost_ret (results_tmp2 rfl _ _ _) rfl ?_
      exact ⟨_, rfl, H3.out, H4.out.drew⟩

end Go.Proofs.Yteboancapfgdeaa.IK

/- Proved here: all, the iterator left, gone through again, and within itself. -/
namespace Go.Proofs.Yteboancapfgdeaa.IK
open Go.RowKit Go.Proofs.Cc Go.Proofs.Rg
attribute [local go_sem ↓] Go.wp_at_zero Go.wp_at_succ

theorem run_min_le {P : Program} (w : World) (ts : Array TypeId) (t : TypeId) (k k' : IntKind) (x y : Int) (h : x ≤ y) : (Builtin.min_ ts t #[.int k x, .int k' y]).run P w = .ok (.int k x) w := by
  have e : (if y < x then y else x) = x := by rw [if_neg (by omega)]
  simp [Builtin.min_, Builtin.min2, e]
attribute [local go_sem high] run_min_le

/-- The cells that all$1 works in. -/
structure AllAt (w0 : World) (bw bi : Nat) (n : Nat) (W : World) : Prop where
  turn : Turn (fun x => x = bw ∨ x = bi) w0 W
  well : W.cell? ⟨bw, 0, none⟩ = some (.bool true)
  num : W.cell? ⟨bi, 0, none⟩ = some (.int .i64 n)
  liveW : Live W bw
  liveI : Live W bi

theorem AllAt.drew {w0 W : World} {bw bi n : Nat} (h : AllAt w0 bw bi n W) : AllAt w0 bw bi n W.drew := ⟨h.turn.drew, h.well, h.num, h.liveW, h.liveI⟩

theorem all_same {w0 W W1 : World} {bw bi n k : Nat} (hA : AllAt w0 bw bi n W) (hB : Below W.heap.size W W1) (hwi : bw ≠ bi) : AllAt w0 bw bi n ((W1.drewN k).setCell ⟨bw, 0, none⟩ (.bool true)) := by
  have hs : ∀ b, b < W.heap.size → W1.heap[b]? = W.heap[b]? := fun b hb => hB.block b hb
  have lw := hA.liveW.lt
  have li := hA.liveI.lt
  have cw : (W1.drewN k).cell? ⟨bw, 0, none⟩ = some (.bool true) := (World.cell?_of_block (w := W) (w' := W1) (a := ⟨bw, 0, none⟩) (hs bw lw)).trans hA.well
  have ci : (W1.drewN k).cell? ⟨bi, 0, none⟩ = some (.int .i64 n) := (World.cell?_of_block (w := W) (w' := W1) (a := ⟨bi, 0, none⟩) (hs bi li)).trans hA.num
  have l1 : Live (W1.drewN k) bw := by obtain ⟨cs, t, h⟩ := hA.liveW; exact ⟨cs, t, (hs bw lw).trans h⟩
  have l2 : Live (W1.drewN k) bi := by obtain ⟨cs, t, h⟩ := hA.liveI; exact ⟨cs, t, (hs bi li).trans h⟩
  have hT : Turn (fun x => x = bw ∨ x = bi) w0 (W1.drewN k) := (hA.turn.trans (Turn.of_below hB)).trans ⟨rfl, rfl, rfl, Nat.le_refl _, fun _ _ _ => rfl⟩
  exact ⟨hT.setCell (.inl (.inl rfl)) _, cell_set_same cw, (cell_set_other (.inl hwi)).trans ci, l1.setCell _ _, l2.setCell _ _⟩

theorem all_count {w0 W : World} {bw bi n : Nat} (hA : AllAt w0 bw bi n W) (hwi : bw ≠ bi) : AllAt w0 bw bi (n + 1) (W.setCell ⟨bi, 0, none⟩ (.int .i64 ((n : Int) + 1))) :=
  ⟨hA.turn.setCell (.inl (.inr rfl)) _, (cell_set_other (.inl (Ne.symm hwi))).trans hA.well, cell_set_same hA.num, hA.liveW.setCell _ _, hA.liveI.setCell _ _⟩

theorem rows_open {w : World} {B : Nat} {v : Value} {T : List (Int × Int)} {n : Nat} {p : Int × Int} (h : w.ownsRow B 120 2 v T.length (rows T)) (hn : T[n]? = some p) :
    ∃ g cap, v = .slice (some ⟨g, 0, none⟩) T.length cap ∧ T.length ≤ cap ∧ cap ≤ 9223372036854775807 ∧ w.cell? ⟨g, n * 2, none⟩ = some (.int .i64 p.1) := by
  have hnl := (List.getElem?_eq_some_iff.1 hn).1
  have h' := h
  rcases h.2 with ⟨rfl, h0⟩ | ⟨g, cap, cur, rfl, _, _, hc, hm, _, _⟩
  · omega
  · exact ⟨g, cap, rfl, hc, hm, (h'.cellAt (n * 2) (by omega)).trans (rows_get T n p hn).1⟩

theorem AllAt.below {w0 W W1 : World} {bw bi n : Nat} (h : AllAt w0 bw bi n W) (hb : Below W.heap.size W W1) : AllAt w0 bw bi n W1 :=
  ⟨h.turn.trans (Turn.of_below hb), (hb.cell (World.block_lt_of_cell? W _ h.well)).trans h.well, (hb.cell (World.block_lt_of_cell? W _ h.num)).trans h.num,
    (Below.toSame hb (S := fun _ => True)).live trivial h.liveW, (Below.toSame hb (S := fun _ => True)).live trivial h.liveI⟩

set_option maxRecDepth 100000 in
set_option maxHeartbeats 4000000 in
theorem all1b_any {w0 W0 : World} {c bx kp vp mp most bp bf bw bi n : Nat} {SC SK SV SM : Nat → Prop} {E : List (Ent I64 KeyV)} {KL : List I64} {VL : List KeyV} (R : ReadyAt W0 c bx kp vp SC SK SV most E KL VL) (M : RefAt 120 W0 mp SM most (codeE KL VL E))
    (hA : AllAt w0 bw bi n W0) (hwi : bw ≠ bi) (hp0 : W0.cell? ⟨bp, 0, none⟩ = some (.pointer (some ⟨c, 0, none⟩))) (hp1 : W0.cell? ⟨bp, 1, none⟩ = some (.pointer (some ⟨mp, 0, none⟩))) (hp2 : W0.cell? ⟨bp, 2, none⟩ = some (.pointer (some ⟨kp, 0, none⟩))) (hp3 : W0.cell? ⟨bp, 3, none⟩ = some (.pointer (some ⟨vp, 0, none⟩)))
    (hf : W0.cell? ⟨bf, 0, none⟩ = some (.func (.func 148) #[] #[.pointer (some ⟨bx, 0, none⟩)])) {e : Ent I64 KeyV} (he : E[n]? = some e) :
    Calls Try.prog 99 (#[.int .i64 e.key.1, .agg #[.string e.val.name.1, .int .i64 e.val.n.1]] ++ #[.pointer (some ⟨bp, 0, none⟩), .pointer (some ⟨bf, 0, none⟩), .pointer (some ⟨bw, 0, none⟩), .pointer (some ⟨bi, 0, none⟩)]) W0
      fun ex W' => ∃ b, ex = .returned (.bool b) ∧ AllAt w0 bw bi (n + 1) W' := by
  have HR0 := Lib.hid R
  have HM0 := Lib.hid M
  have HA0 := Lib.hid hA
  have HE := Lib.hid he
  have HP := Lib.hid (And.intro hp0 (And.intro hp1 (And.intro hp2 (And.intro hp3 hf))))
  have hTn : (codeE KL VL E)[n]? = some (((idx KL e.key : Nat) : Int), ((idx VL e.val : Nat) : Int)) := by unfold codeE; rw [List.getElem?_map, he]; rfl
  have HTN := Lib.hid hTn
  have hnl := (List.getElem?_eq_some_iff.1 hTn).1
  clear R M hA he hTn hp0 hp1 hp2 hp3 hf
  simp only [List.append_toArray, List.cons_append, List.nil_append]
  go_enter Try.func99, Try.ntmps99
  go_upto_region 1 with fail
  generalize hW : W0.alloc (.cells #[.string e.val.name.1, .int .i64 e.val.n.1] 31) = W
  obtain ⟨hbw, hsz, x0, x1⟩ := box2 W0 _ _ _ hW
  have HR := Lib.hid (HR0.out.below hbw)
  have HM := Lib.hid (HM0.out.frame (Below.toSame hbw))
  have HA := Lib.hid (HA0.out.below hbw)
  have clw : ∀ b o u, W0.cell? ⟨b, o, none⟩ = some u → W.cell? ⟨b, o, none⟩ = some u := fun b o u h => (hbw.cell (World.block_lt_of_cell? W0 _ h)).trans h
  have hp0 := clw _ _ _ HP.out.1
  have hp1 := clw _ _ _ HP.out.2.1
  have hp2 := clw _ _ _ HP.out.2.2.1
  have hp3 := clw _ _ _ HP.out.2.2.2.1
  have hf := clw _ _ _ HP.out.2.2.2.2
  have hwc := HA.out.well
  have hic := HA.out.num
  clear hW hbw clw HR0 HM0 HA0 HP
  go_wp2_with fail
  refine (givenIK_any (mp := mp) HR.out (-1)).mono ?_
  rintro ex W1 ⟨v1, rfl, hown1, hb1⟩
  have hup : upTo (-1) (codeE KL VL E) = codeE KL VL E := by unfold upTo; rw [if_pos (by omega)]
  rw [hup] at hown1
  have cl : ∀ b o u, W.cell? ⟨b, o, none⟩ = some u → W1.cell? ⟨b, o, none⟩ = some u := fun b o u h => (hb1.cell (World.block_lt_of_cell? W _ h)).trans h
  have HO := Lib.hid hown1
  obtain ⟨vm, hmc, hom, hvm⟩ := HM.out.list
  obtain ⟨gm, capm, rfl, hcm1, hcm2, hkc⟩ := rows_open hom HTN.out
  have k1 := regr_cell (cl _ _ _ hp1)
  have k2 := regr_cell (cl _ _ _ hp2)
  have k3 := cl _ _ _ hmc
  have k4 := regr_cell (cl _ _ _ hic)
  have k5 := regr_cell (cl _ _ _ hwc)
  have k6 := regr_cell (cl _ _ _ hkc)
  have k7 := regr_cell (cl _ _ _ x0)
  have k8 := regr_cell (cl _ _ _ x1)
  have HOM := Lib.hid (ownsRow_same hom (Below.toSame hb1 (S := fun _ => True)) (fun _ _ => trivial))
  have HK1 := Lib.hid (HR.out.keys.frame (Below.toSame hb1))
  have HA1 := Lib.hid (HA.out.below hb1)
  have Hk := Lib.hid (HR.out.key e (List.mem_of_getElem? HE.out))
  clear cl hown1 hb1 hom hvm hp0 hp1 hp2 hp3 hf hmc hic hwc hkc x0 x1
  obtain ⟨m, hm⟩ : ∃ m, (codeE KL VL E).length = m + 1 := ⟨(codeE KL VL E).length - 1, by omega⟩
  have HMM := Lib.hid hm
  have HOM2 := Lib.hid (show W1.ownsRow 0 120 2 (.slice (some ⟨gm, 0, none⟩) (m + 1) capm) (codeE KL VL E).length (rows (codeE KL VL E)) from by rw [← hm]; exact HOM.out)
  rw [hm] at k3 hnl hcm1
  replace k3 := regr_cell k3
  clear hm
  have d0 : decide ((n : Int) < ((m : Nat) : Int) + 1) = true := by simp; omega
  have hwr : IntKind.i64.wrap ((m : Nat) : Int) = ((m : Nat) : Int) := by simp [IntKind.wrap, IntKind.bits, IntKind.signed]; omega
  have d7 : (n : Int) ≤ ((m : Nat) : Int) := by omega
  have d8 : n ≤ m := by omega
  have d3 : (0 : Int) ≤ (n : Int) := by omega
  have d4 : (n : Int) < ((m : Nat) : Int) + 1 := by omega
  have d9 : ¬ (((m : Nat) : Int) + 1 - 1 < (n : Int)) := by omega
  have d10 : min (n : Int) (((m : Nat) : Int) + 1 - 1) = (n : Int) := by omega
  have d1 : min (n : Int) ((m : Nat) : Int) = (n : Int) := by omega
  have d2 : ¬ (((m : Nat) : Int) < (n : Int)) := by omega
  have d5 : ¬ (m < n) := by omega
  have d6 : min n m = n := by omega
  go_wp2_with fail
  refine wp_region_norm_below [] [] (List.range 47) [47] [47] (by kernel_rfl) (by kernel_rfl) (fun _ _ d _ _ h => by cases d <;> exact h) ?_
  rw [show List.range 47 = [0, 1, 2, 3, 4, 5, 6, 7, 8, 9, 10, 11, 12, 13, 14, 15, 16, 17, 18, 19, 20, 21, 22, 23, 24, 25, 26, 27, 28, 29, 30, 31, 32, 33, 34, 35, 36, 37, 38, 39, 40, 41, 42, 43, 44, 45, 46] from rfl]
  simp only [pick, List.filterMap_cons, List.filterMap_nil, List.getElem?_toArray, List.getElem?_cons_zero, List.getElem?_cons_succ]
  repeat (first | (with_reducible refine wpQuiet_nil ?_) | quiet_step (first
    | (go_at_call 60; exact Calls.regrown_of ((same_eq (L := codeE KL VL E) (B1 := W.heap.size) (B2 := 0) (ownsRow_same HO.out (Below.toSame (below_regrown W1 _ _) (S := fun _ => True)) (fun _ _ => trivial)) (ownsRow_same HOM2.out (Below.toSame (below_regrown W1 _ _) (S := fun _ => True)) (fun _ _ => trivial))).mono fun _ _ h => ⟨h.1, by obtain ⟨q, h2⟩ := h.2; rw [h2]; exact below_drewN (Below.refl _ _)⟩))
    | (go_at_call 46; exact Calls.regrown_of ((ofI_q (HK1.out.frame (Below.toSame (below_regrown W1 _ _))) e.key Hk.out).mono fun _ _ h => ⟨h.1, by rw [h.2]; exact Below.refl _ _⟩))))
  intro V1 hV1
  change wpList _ _ _ _ _ V1
  have hA1 := HA1.out.below hV1
  have a0 := hA1.well
  have a4 := hA1.liveW.frozen 0 none
  have hA2 : AllAt w0 bw bi n (V1.setCell ⟨bw, 0, none⟩ (.bool true)) :=
    ⟨hA1.turn.setCell (.inl (.inl rfl)) _, cell_set_same hA1.well, (cell_set_other (.inl hwi)).trans hA1.num, hA1.liveW.setCell _ _, hA1.liveI.setCell _ _⟩
  have HA2 := Lib.hid hA2
  have hn3 : (n : Int) + 1 ≤ 9223372036854775807 := by omega
  clear hV1 hA1 hA2 k1 k2 k3 k4 k5 k6 k7 k8 hwr d0 d1 d2 d3 d4 d5 d6 d7 d8 d9 d10
  go_upto_region 3 with fail
  generalize V1.setCell ⟨bw, 0, none⟩ (.bool true) = W2 at HA2 ⊢
  have a1 := HA2.out.well
  have a2 := HA2.out.num
  have a3 := HA2.out.liveI.frozen 0 none
  clear a0 a4
  go_wp2_with fail
  go_ret
  exact ⟨_, rfl, all_count HA2.out hwi⟩

end Go.Proofs.Yteboancapfgdeaa.IK

/- Proved here: all, the rest. -/
namespace Go.Proofs.Yteboancapfgdeaa.IK
open Go.RowKit Go.Proofs.Cc

/-- A pair: the program's cache and the document's. -/
structure PairAt (w : World) (c mp kp vp : Nat) (SC SM SK SV : Nat → Prop) (most : Nat) (E : List (Ent I64 KeyV)) (KL : List I64) (VL : List KeyV) : Prop where
  cache : CacheAt Try.prog 3 kdI kdK w c SC most E
  ref : RefAt 120 w mp SM most (codeE KL VL E)
  keys : CodesAt 3 1 kdI zeroI w kp SK KL
  vals : CodesAt 31 2 kdK zeroK w vp SV VL
  key : ∀ e ∈ E, e.key ∈ KL
  val : ∀ e ∈ E, e.val ∈ VL
  len : E.length ≤ most
  room : most ≤ 1048576

theorem RefAt.tight {eT : TypeId} {w : World} {m most : Nat} {S : Nat → Prop} {L : List (Int × Int)} (R : RefAt eT w m S most L) : RefAt eT w m (fun x => S x ∧ x < w.heap.size) most L := by
  obtain ⟨h1, ⟨v, h2, h3, h4⟩, h5, h6⟩ := R
  exact ⟨h1, ⟨v, h2, h3, fun g hg => ⟨⟨(h4 g hg).1, (h3.lt g hg).2⟩, (h4 g hg).2⟩⟩, h5, ⟨h6, h5.lt⟩⟩

theorem PairAt.tight {w : World} {c mp kp vp most : Nat} {SC SM SK SV : Nat → Prop} {E : List (Ent I64 KeyV)} {KL : List I64} {VL : List KeyV} (R : PairAt w c mp kp vp SC SM SK SV most E KL VL) :
    PairAt w c mp kp vp (fun x => SC x ∧ x < w.heap.size) (fun x => SM x ∧ x < w.heap.size) (fun x => SK x ∧ x < w.heap.size) (fun x => SV x ∧ x < w.heap.size) most E KL VL :=
  ⟨CacheAt.tight R.cache, RefAt.tight R.ref, CodesAt.tight R.keys, CodesAt.tight R.vals, R.key, R.val, R.len, R.room⟩

/-- What turns elsewhere. -/
theorem PairAt.frame {w w' : World} {c mp kp vp most : Nat} {SC SM SK SV : Nat → Prop} {E : List (Ent I64 KeyV)} {KL : List I64} {VL : List KeyV} (R : PairAt w c mp kp vp SC SM SK SV most E KL VL) (h1 : Same SC w w') (h2 : Same SM w w') (h3 : Same SK w w') (h4 : Same SV w w') : PairAt w' c mp kp vp SC SM SK SV most E KL VL :=
  ⟨R.cache.frame h1, R.ref.frame h2, R.keys.frame h3, R.vals.frame h4, R.key, R.val, R.len, R.room⟩

theorem PairAt.below {w w' : World} {c mp kp vp most : Nat} {SC SM SK SV : Nat → Prop} {E : List (Ent I64 KeyV)} {KL : List I64} {VL : List KeyV} (R : PairAt w c mp kp vp SC SM SK SV most E KL VL) (hb : Below w.heap.size w w') : PairAt w' c mp kp vp SC SM SK SV most E KL VL :=
  R.frame (Below.toSame hb) (Below.toSame hb) (Below.toSame hb) (Below.toSame hb)

theorem PairAt.ready {w : World} {c mp kp vp most bx : Nat} {SC SM SK SV : Nat → Prop} {E : List (Ent I64 KeyV)} {KL : List I64} {VL : List KeyV} (R : PairAt w c mp kp vp SC SM SK SV most E KL VL) (hb : w.cell? ⟨bx, 0, none⟩ = some (.pointer (some ⟨c, 0, none⟩))) : ReadyAt w c bx kp vp SC SK SV most E KL VL :=
  ⟨R.cache, hb, R.keys, R.vals, R.key, R.val, Nat.le_trans R.len R.room⟩

theorem call_all1 (args : Array Value) (W : World) : (callFunc 99 args).run Try.prog W = .ok (.enter 99 args) W := by go_simp

/-- The cells that all lays first. -/
theorem all_boxes (w : World) (c mp kp vp : Nat) (f : Value) {w0 : World} {t1 t2 t3 : TypeId} (h : ((w.alloc (.cells #[.pointer (some ⟨c, 0, none⟩), .pointer (some ⟨mp, 0, none⟩), .pointer (some ⟨kp, 0, none⟩), .pointer (some ⟨vp, 0, none⟩)] t1)).alloc (.cells #[.pointer (some ⟨c, 0, none⟩)] t2)).alloc (.cells #[f] t3) = w0) :
    Below w.heap.size w w0 ∧ w0.heap.size = w.heap.size + 3 ∧ w0.cell? ⟨w.heap.size, 0, none⟩ = some (.pointer (some ⟨c, 0, none⟩)) ∧ w0.cell? ⟨w.heap.size, 1, none⟩ = some (.pointer (some ⟨mp, 0, none⟩)) ∧ w0.cell? ⟨w.heap.size, 2, none⟩ = some (.pointer (some ⟨kp, 0, none⟩)) ∧ w0.cell? ⟨w.heap.size, 3, none⟩ = some (.pointer (some ⟨vp, 0, none⟩)) ∧
    w0.cell? ⟨w.heap.size + 1, 0, none⟩ = some (.pointer (some ⟨c, 0, none⟩)) ∧ w0.cell? ⟨w.heap.size + 1 + 1, 0, none⟩ = some f := by
  subst h
  have g0 := (MapKept.heap_alloc w (.cells #[.pointer (some ⟨c, 0, none⟩), .pointer (some ⟨mp, 0, none⟩), .pointer (some ⟨kp, 0, none⟩), .pointer (some ⟨vp, 0, none⟩)] t1)).1
  generalize hA : w.alloc (.cells #[.pointer (some ⟨c, 0, none⟩), .pointer (some ⟨mp, 0, none⟩), .pointer (some ⟨kp, 0, none⟩), .pointer (some ⟨vp, 0, none⟩)] t1) = A at g0
  have hAs : A.heap.size = w.heap.size + 1 := by rw [← hA]; simp
  have g1 := (MapKept.heap_alloc A (.cells #[.pointer (some ⟨c, 0, none⟩)] t2)).1
  have g0' := (Below.heap_alloc A (.cells #[.pointer (some ⟨c, 0, none⟩)] t2) w.heap.size (by omega)).trans g0
  generalize hB : A.alloc (.cells #[.pointer (some ⟨c, 0, none⟩)] t2) = B at g1 g0'
  have hBs : B.heap.size = w.heap.size + 2 := by rw [← hB]; simp [hAs]
  have g2 := (MapKept.heap_alloc B (.cells #[f] t3)).1
  have g1' := (Below.heap_alloc B (.cells #[f] t3) A.heap.size (by omega)).trans g1
  have g0'' := (Below.heap_alloc B (.cells #[f] t3) w.heap.size (by omega)).trans g0'
  rw [hAs] at g1'
  rw [hBs] at g2
  refine ⟨?_, by simp [hBs], by unfold World.cell?; simp only; rw [g0'']; rfl, by unfold World.cell?; simp only; rw [g0'']; rfl, by unfold World.cell?; simp only; rw [g0'']; rfl, by unfold World.cell?; simp only; rw [g0'']; rfl, by unfold World.cell?; simp only; rw [g1']; rfl, by unfold World.cell?; simp only; rw [show w.heap.size + 1 + 1 = w.heap.size + 2 from rfl, g2]; rfl⟩
  rw [← hB, ← hA]
  exact (((Below.refl _ w).alloc (Nat.le_refl _) _).alloc (by simp) _).alloc (by simp; omega) _

theorem cell_keep2 {w : World} {a : Addr} {u : Value} (o1 o2 : Obj) (h : w.cell? a = some u) : ((w.alloc o1).alloc o2).cell? a = some u := by
  have h1 : (w.alloc o1).cell? a = some u := (World.cell?_of_block (w := w) (Below.heap_alloc w o1 _ (World.block_lt_of_cell? w a h))).trans h
  exact (World.cell?_of_block (w := w.alloc o1) (Below.heap_alloc _ o2 _ (World.block_lt_of_cell? _ a h1))).trans h1

theorem two_boxes (w : World) {w0 : World} {u v : Value} {t1 t2 : TypeId} (h : (w.alloc (.cells #[u] t1)).alloc (.cells #[v] t2) = w0) :
    Below w.heap.size w w0 ∧ w0.heap.size = w.heap.size + 2 ∧ w0.cell? ⟨w.heap.size, 0, none⟩ = some u ∧ w0.cell? ⟨w.heap.size + 1, 0, none⟩ = some v ∧ Live w0 w.heap.size ∧ Live w0 (w.heap.size + 1) := by
  subst h
  have g0 := (MapKept.heap_alloc w (.cells #[u] t1)).1
  generalize hA : w.alloc (.cells #[u] t1) = A at g0
  have hAs : A.heap.size = w.heap.size + 1 := by rw [← hA]; simp
  have g1 := (MapKept.heap_alloc A (.cells #[v] t2)).1
  have g0' := (Below.heap_alloc A (.cells #[v] t2) w.heap.size (by omega)).trans g0
  rw [hAs] at g1
  refine ⟨?_, by simp [hAs], by unfold World.cell?; simp only; rw [g0']; rfl, by unfold World.cell?; simp only; rw [g1]; rfl, ⟨_, _, g0'⟩, ⟨_, _, g1⟩⟩
  rw [← hA]
  exact ((Below.refl _ w).alloc (Nat.le_refl _) _).alloc (by simp) _

theorem owns_cut {w : World} {base e : Nat} {a : Option Addr} {cap : Nat} {L : List (Int × Int)} (h : w.ownsRow base e 2 (.slice a L.length cap) L.length (rows L)) (n : Nat) (hn : n < L.length) :
    w.ownsRow base e 2 (.slice a n cap) (L.take n).length (rows (L.take n)) ∧ n ≤ cap := by
  have h' := h
  rcases h.2 with ⟨h1, h0⟩ | ⟨g, cap', cur, e1, hb, hg, hc, r⟩
  · omega
  · injection e1 with e1 e2 e3
    subst e1; subst e3
    exact ⟨owns_take h' n (by omega), by omega⟩

set_option maxRecDepth 100000 in
set_option maxHeartbeats 4000000 in
theorem allIK_pair {w : World} {c mp kp vp most : Nat} {SC SM SK SV : Nat → Prop} {E : List (Ent I64 KeyV)} {KL : List I64} {VL : List KeyV} (R : PairAt w c mp kp vp SC SM SK SV most E KL VL) (N : Int) :
    Calls Try.prog 21 #[.agg #[.pointer (some ⟨c, 0, none⟩), .pointer (some ⟨mp, 0, none⟩), .pointer (some ⟨kp, 0, none⟩), .pointer (some ⟨vp, 0, none⟩)], .int .i64 N] w
      fun ex w' => ex = .returned (.bool true) ∧ Below w.heap.size w w' := by
  have HR := Lib.hid (PairAt.tight R)
  obtain ⟨vm, hmc, hom, hvm⟩ := R.ref.list
  obtain ⟨am, cm, rfl⟩ := owns_shape hom
  have HOM := Lib.hid hom
  have hml := R.ref.live.lt
  obtain ⟨T, hT⟩ : ∃ T, codeE KL VL E = T := ⟨_, rfl⟩
  have HT := Lib.hid hT
  rw [hT] at hmc hom HOM
  clear R hvm hT
  rcases Int.lt_or_le N 0 with hN | hN
  · have d0 : decide ((0 : Int) ≤ N) = false := by simp; omega
    have HS := Lib.hid (show w.ownsRow 0 120 2 (.slice am T.length cm) (upTo N T).length (rows (upTo N T)) from by unfold upTo; rw [if_pos hN]; exact hom)
    clear hom hN
    go_enter Try.func21, Try.ntmps21
    go_wp2_with fail
    refine (allIK_any c).mono ?_
    rintro ex W1 ⟨rfl, rfl⟩
    have hmX : (((w.alloc (.cells #[.pointer (some ⟨c, 0, none⟩), .pointer (some ⟨mp, 0, none⟩), .pointer (some ⟨kp, 0, none⟩), .pointer (some ⟨vp, 0, none⟩)] 44)).alloc (.cells #[.pointer (some ⟨c, 0, none⟩)] 42)).alloc (.cells #[.func (.func 148) #[] #[.pointer (some ⟨w.heap.size + 1, 0, none⟩)]] 165)).cell? ⟨mp, 1, none⟩ = some (.slice am T.length cm) := by
      have hbX := (all_boxes w c mp kp vp (.func (.func 148) #[] #[.pointer (some ⟨w.heap.size + 1, 0, none⟩)]) (t1 := 44) (t2 := 42) (t3 := 165) rfl).1
      exact (hbX.cell (World.block_lt_of_cell? w _ hmc)).trans hmc
    go_wp2_with fail
    clear hmX
    generalize hW3 : ((w.alloc (.cells #[.pointer (some ⟨c, 0, none⟩), .pointer (some ⟨mp, 0, none⟩), .pointer (some ⟨kp, 0, none⟩), .pointer (some ⟨vp, 0, none⟩)] 44)).alloc (.cells #[.pointer (some ⟨c, 0, none⟩)] 42)).alloc (.cells #[.func (.func 148) #[] #[.pointer (some ⟨w.heap.size + 1, 0, none⟩)]] 165) = W3
    obtain ⟨hb3, hs3, p0, p1, p2, p3, bx0, bf0⟩ := all_boxes w c mp kp vp _ hW3
    have R3 := HR.out.below hb3
    have hm3 := (hb3.cell (World.block_lt_of_cell? w _ hmc)).trans hmc
    refine (givenIK_any (mp := mp) (R3.ready bx0) N).mono ?_
    rintro ex W4 ⟨va, rfl, hownA, hb4⟩
    have cl4 : ∀ b o u, W3.cell? ⟨b, o, none⟩ = some u → W4.cell? ⟨b, o, none⟩ = some u := fun b o u h => (hb4.cell (World.block_lt_of_cell? W3 _ h)).trans h
    have R4 := R3.below hb4
    have p0' := cl4 _ _ _ p0
    have p1' := cl4 _ _ _ p1
    have p2' := cl4 _ _ _ p2
    have p3' := cl4 _ _ _ p3
    have bx4 := cl4 _ _ _ bx0
    have bf4 := cl4 _ _ _ bf0
    have hm4 := cl4 _ _ _ hm3
    have HB3 := Lib.hid hb3
    have HB4 := Lib.hid hb4
    have HA := Lib.hid hownA
    have HR4 := Lib.hid R4
    have HBX := Lib.hid bx4
    clear hW3 p0 p1 p2 p3 bx0 bf0 hm3 cl4 R3 R4 hb3 hb4 hownA hmc
    go_wp2_with fail
    refine (givenIK_any (mp := mp) (HR4.out.ready HBX.out) (-1)).mono ?_
    rintro ex W5 ⟨vb, rfl, hownB, hb5⟩
    have cl5 : ∀ b o u, W4.cell? ⟨b, o, none⟩ = some u → W5.cell? ⟨b, o, none⟩ = some u := fun b o u h => (hb5.cell (World.block_lt_of_cell? W4 _ h)).trans h
    have R5 := HR4.out.below hb5
    have q0 := cl5 _ _ _ p0'
    have q1 := cl5 _ _ _ p1'
    have q2 := cl5 _ _ _ p2'
    have q3 := cl5 _ _ _ p3'
    have bx5 := cl5 _ _ _ bx4
    have bf5 := cl5 _ _ _ bf4
    have hm5 := cl5 _ _ _ hm4
    have hup : upTo (-1) (codeE KL VL E) = codeE KL VL E := by unfold upTo; rw [if_pos (by omega)]
    rw [hup, HT.out] at hownB
    have hA5 := ownsRow_same HA.out (Below.toSame hb5 (S := fun _ => True)) (fun _ _ => trivial)
    rw [HT.out] at hA5
    have hb35 : Below w.heap.size w W5 := (HB3.out.trans (HB4.out.mono (by omega))).trans (hb5.mono (by have := HB4.out.size; omega))
    have hS5 := ownsRow_same HS.out (Below.toSame hb35 (S := fun _ => True)) (fun _ _ => trivial)
    have hO5 := ownsRow_same HOM.out (Below.toSame hb35 (S := fun _ => True)) (fun _ _ => trivial)
    have h5sz : w.heap.size + 3 ≤ W5.heap.size := by have := HB4.out.size; have := hb5.size; omega
    have HR5 := Lib.hid R5
    have HB5 := Lib.hid hb35
    have HA5 := Lib.hid hA5
    have HS5 := Lib.hid hS5
    have HO5 := Lib.hid hO5
    have HB := Lib.hid hownB
    clear cl5 p0' p1' p2' p3' bx4 bf4 hm4 R5 hup hA5 hS5 hO5 hownB hb5 hb35 HBX
    go_wp2_with fail
    refine (same_eq HA5.out HS5.out).mono ?_
    rintro ex W6 ⟨rfl, n6, rfl⟩
    go_wp2_with fail
    refine (same_eq (w := W5.drewN n6) (L := T) HB.out HO5.out).mono ?_
    rintro ex W7 ⟨rfl, n7, hW7⟩
    have hh : W7.heap = W5.heap := by rw [hW7]; rfl
    have hsm : ∀ S : Nat → Prop, Same S W5 W7 := fun S k _ _ => by rw [hh]
    have hc7 : ∀ a, W7.cell? a = W5.cell? a := fun a => by unfold World.cell?; rw [hh]
    have R7 := HR5.out.frame (hsm _) (hsm _) (hsm _) (hsm _)
    have r0 := (hc7 _).trans q0
    have r1 := (hc7 _).trans q1
    have r2 := (hc7 _).trans q2
    have r3 := (hc7 _).trans q3
    have rbx := (hc7 _).trans bx5
    have rbf := (hc7 _).trans bf5
    have rm := (hc7 _).trans hm5
    have hb7 : Below w.heap.size w W7 := HB5.out.trans ⟨by rw [hW7]; rfl, by rw [hW7]; rfl, by rw [hW7]; rfl, by rw [hh]; exact Nat.le_refl _, fun k _ => by rw [hh]⟩
    have h7sz : w.heap.size + 3 ≤ W7.heap.size := by rw [hh]; exact h5sz
    have HB7 := Lib.hid hb7
    have HR7 := Lib.hid R7
    have HRB := Lib.hid (And.intro r0 (And.intro r1 (And.intro r2 (And.intro r3 (And.intro rbx rbf)))))
    have hbf9 : ((W7.alloc (.cells #[.int .i64 0] 3)).alloc (.cells #[.bool true] 4)).cell? ⟨w.heap.size + 1 + 1, 0, none⟩ = some (.func (.func 148) #[] #[.pointer (some ⟨w.heap.size + 1, 0, none⟩)]) := cell_keep2 _ _ rbf
    clear hW7 hh hsm hc7 R7 r0 r1 r2 r3 rbx rbf rm hb7 q0 q1 q2 q3 bx5 bf5 hm5 h5sz
    go_wp2_with fail
    obtain ⟨r0, r1, r2, r3, rbx, rbf⟩ := HRB.out
    generalize hW9 : (W7.alloc (.cells #[.int .i64 0] 3)).alloc (.cells #[.bool true] 4) = W9
    obtain ⟨hb9, hs9, j0, j1, l0, l1⟩ := two_boxes W7 hW9
    have cl9 : ∀ b o u, W7.cell? ⟨b, o, none⟩ = some u → W9.cell? ⟨b, o, none⟩ = some u := fun b o u h => (hb9.cell (World.block_lt_of_cell? W7 _ h)).trans h
    have R9 := HR7.out.below hb9
    refine (all1IK_any R9.cache (w.heap.size + 1) (cl9 _ _ _ rbx) 99 _ (fun args W => call_all1 args W) (fun _ n W => AllAt W9 (W7.heap.size + 1) W7.heap.size n W) ?_ (fun _ _ _ h => h.drew) ?_ ?_).mono ?_
    · intro b n W hJ x hx hT
      refine hJ.turn.block x hx ?_
      rcases hT with hT | rfl
      · have := hT.2; omega
      · omega
    · exact ⟨Turn.refl _ _, j1, j0, l1, l0⟩
    · intro n e W hE hJ
      have hsame : ∀ S : Nat → Prop, (∀ x, S x → x < w.heap.size) → Same S W9 W := fun S hS x hx hs => hJ.turn.block x hx (by have := hS x hs; omega)
      have hcp : ∀ b o u, b < w.heap.size + 3 → W9.cell? ⟨b, o, none⟩ = some u → W.cell? ⟨b, o, none⟩ = some u := fun b o u hb hu => by
        rw [← hu]
        exact World.cell?_of_block (w := W9) (a := ⟨b, o, none⟩) (hJ.turn.block b (World.block_lt_of_cell? W9 _ hu) (by omega))
      have RW := R9.frame (hsame _ (fun x h => h.2)) (hsame _ (fun x h => h.2)) (hsame _ (fun x h => h.2)) (hsame _ (fun x h => h.2))
      exact all1b_any (mp := mp) (bp := w.heap.size) (bf := w.heap.size + 1 + 1) (RW.ready (hcp _ _ _ (by omega) (cl9 _ _ _ rbx))) RW.ref hJ (by omega) (hcp _ _ _ (by omega) (cl9 _ _ _ r0)) (hcp _ _ _ (by omega) (cl9 _ _ _ r1)) (hcp _ _ _ (by omega) (cl9 _ _ _ r2)) (hcp _ _ _ (by omega) (cl9 _ _ _ r3))
        (hcp _ _ _ (by omega) (cl9 _ _ _ rbf)) hE
    · have fin : ∀ W n, AllAt W9 (W7.heap.size + 1) W7.heap.size n W → W.cell? ⟨W7.heap.size + 1, 0, none⟩ = some (.bool true) ∧ Below w.heap.size w W := fun W n hJ =>
        ⟨hJ.well, (HB7.out.trans (hb9.mono (by omega))).trans (hJ.turn.below (by omega) (fun x hx => by omega))⟩
      rintro ex W ⟨rfl, hJ⟩
      have hf : W.cell? ⟨W7.heap.size + 1, 0, none⟩ = some (.bool true) ∧ Below w.heap.size w W := by
        rcases hJ with hJ | ⟨n, hn, hJ⟩
        · exact fin _ _ hJ
        · exact fin _ _ hJ
      have hw := hf.1
      have HF := Lib.hid hf.2
      clear hJ fin hf R9 cl9 j0 j1 l0 l1 hb9 hW9 r0 r1 r2 r3 rbx rbf hbf9
      go_wp2_with fail
      go_ret
      exact ⟨rfl, HF.out⟩
  · have d0 : decide ((0 : Int) ≤ N) = true := by simpa using hN
    rcases Int.lt_or_le N T.length with hN2 | hN2
    · obtain ⟨k, rfl⟩ : ∃ k : Nat, N = k := ⟨N.toNat, by omega⟩
      have d1 : decide ((k : Int) < (T.length : Int)) = true := by simpa using hN2
      have hk : k < T.length := by omega
      have hcut := owns_cut hom k hk
      have HS := Lib.hid (show w.ownsRow 0 120 2 (.slice am k cm) (upTo (k : Int) T).length (rows (upTo (k : Int) T)) from by unfold upTo; rw [if_neg (by omega)]; exact hcut.1)
      have i0 : (0 : Int) ≤ (k : Int) := hN
      have i1 : (k : Int) ≤ (T.length : Int) := by omega
      have i2 : (k : Int) ≤ (cm : Int) := by have := hcut.2; omega
      clear hom hN hN2 hcut
      go_enter Try.func21, Try.ntmps21
      go_wp2_with fail
      refine (allIK_any c).mono ?_
      rintro ex W1 ⟨rfl, rfl⟩
      have hmX : (((w.alloc (.cells #[.pointer (some ⟨c, 0, none⟩), .pointer (some ⟨mp, 0, none⟩), .pointer (some ⟨kp, 0, none⟩), .pointer (some ⟨vp, 0, none⟩)] 44)).alloc (.cells #[.pointer (some ⟨c, 0, none⟩)] 42)).alloc (.cells #[.func (.func 148) #[] #[.pointer (some ⟨w.heap.size + 1, 0, none⟩)]] 165)).cell? ⟨mp, 1, none⟩ = some (.slice am T.length cm) := by
        have hbX := (all_boxes w c mp kp vp (.func (.func 148) #[] #[.pointer (some ⟨w.heap.size + 1, 0, none⟩)]) (t1 := 44) (t2 := 42) (t3 := 165) rfl).1
        exact (hbX.cell (World.block_lt_of_cell? w _ hmc)).trans hmc
      go_wp2_with fail
      clear hmX
      generalize hW3 : ((w.alloc (.cells #[.pointer (some ⟨c, 0, none⟩), .pointer (some ⟨mp, 0, none⟩), .pointer (some ⟨kp, 0, none⟩), .pointer (some ⟨vp, 0, none⟩)] 44)).alloc (.cells #[.pointer (some ⟨c, 0, none⟩)] 42)).alloc (.cells #[.func (.func 148) #[] #[.pointer (some ⟨w.heap.size + 1, 0, none⟩)]] 165) = W3
      obtain ⟨hb3, hs3, p0, p1, p2, p3, bx0, bf0⟩ := all_boxes w c mp kp vp _ hW3
      have R3 := HR.out.below hb3
      have hm3 := (hb3.cell (World.block_lt_of_cell? w _ hmc)).trans hmc
      refine (givenIK_any (mp := mp) (R3.ready bx0) (k : Int)).mono ?_
      rintro ex W4 ⟨va, rfl, hownA, hb4⟩
      have cl4 : ∀ b o u, W3.cell? ⟨b, o, none⟩ = some u → W4.cell? ⟨b, o, none⟩ = some u := fun b o u h => (hb4.cell (World.block_lt_of_cell? W3 _ h)).trans h
      have R4 := R3.below hb4
      have p0' := cl4 _ _ _ p0
      have p1' := cl4 _ _ _ p1
      have p2' := cl4 _ _ _ p2
      have p3' := cl4 _ _ _ p3
      have bx4 := cl4 _ _ _ bx0
      have bf4 := cl4 _ _ _ bf0
      have hm4 := cl4 _ _ _ hm3
      have HB3 := Lib.hid hb3
      have HB4 := Lib.hid hb4
      have HA := Lib.hid hownA
      have HR4 := Lib.hid R4
      have HBX := Lib.hid bx4
      clear hW3 p0 p1 p2 p3 bx0 bf0 hm3 cl4 R3 R4 hb3 hb4 hownA hmc
      go_wp2_with fail
      refine (givenIK_any (mp := mp) (HR4.out.ready HBX.out) (-1)).mono ?_
      rintro ex W5 ⟨vb, rfl, hownB, hb5⟩
      have cl5 : ∀ b o u, W4.cell? ⟨b, o, none⟩ = some u → W5.cell? ⟨b, o, none⟩ = some u := fun b o u h => (hb5.cell (World.block_lt_of_cell? W4 _ h)).trans h
      have R5 := HR4.out.below hb5
      have q0 := cl5 _ _ _ p0'
      have q1 := cl5 _ _ _ p1'
      have q2 := cl5 _ _ _ p2'
      have q3 := cl5 _ _ _ p3'
      have bx5 := cl5 _ _ _ bx4
      have bf5 := cl5 _ _ _ bf4
      have hm5 := cl5 _ _ _ hm4
      have hup : upTo (-1) (codeE KL VL E) = codeE KL VL E := by unfold upTo; rw [if_pos (by omega)]
      rw [hup, HT.out] at hownB
      have hA5 := ownsRow_same HA.out (Below.toSame hb5 (S := fun _ => True)) (fun _ _ => trivial)
      rw [HT.out] at hA5
      have hb35 : Below w.heap.size w W5 := (HB3.out.trans (HB4.out.mono (by omega))).trans (hb5.mono (by have := HB4.out.size; omega))
      have hS5 := ownsRow_same HS.out (Below.toSame hb35 (S := fun _ => True)) (fun _ _ => trivial)
      have hO5 := ownsRow_same HOM.out (Below.toSame hb35 (S := fun _ => True)) (fun _ _ => trivial)
      have h5sz : w.heap.size + 3 ≤ W5.heap.size := by have := HB4.out.size; have := hb5.size; omega
      have HR5 := Lib.hid R5
      have HB5 := Lib.hid hb35
      have HA5 := Lib.hid hA5
      have HS5 := Lib.hid hS5
      have HO5 := Lib.hid hO5
      have HB := Lib.hid hownB
      clear cl5 p0' p1' p2' p3' bx4 bf4 hm4 R5 hup hA5 hS5 hO5 hownB hb5 hb35 HBX
      go_wp2_with fail
      refine (same_eq HA5.out HS5.out).mono ?_
      rintro ex W6 ⟨rfl, n6, rfl⟩
      go_wp2_with fail
      refine (same_eq (w := W5.drewN n6) (L := T) HB.out HO5.out).mono ?_
      rintro ex W7 ⟨rfl, n7, hW7⟩
      have hh : W7.heap = W5.heap := by rw [hW7]; rfl
      have hsm : ∀ S : Nat → Prop, Same S W5 W7 := fun S k _ _ => by rw [hh]
      have hc7 : ∀ a, W7.cell? a = W5.cell? a := fun a => by unfold World.cell?; rw [hh]
      have R7 := HR5.out.frame (hsm _) (hsm _) (hsm _) (hsm _)
      have r0 := (hc7 _).trans q0
      have r1 := (hc7 _).trans q1
      have r2 := (hc7 _).trans q2
      have r3 := (hc7 _).trans q3
      have rbx := (hc7 _).trans bx5
      have rbf := (hc7 _).trans bf5
      have rm := (hc7 _).trans hm5
      have hb7 : Below w.heap.size w W7 := HB5.out.trans ⟨by rw [hW7]; rfl, by rw [hW7]; rfl, by rw [hW7]; rfl, by rw [hh]; exact Nat.le_refl _, fun k _ => by rw [hh]⟩
      have h7sz : w.heap.size + 3 ≤ W7.heap.size := by rw [hh]; exact h5sz
      have HB7 := Lib.hid hb7
      have HR7 := Lib.hid R7
      have HRB := Lib.hid (And.intro r0 (And.intro r1 (And.intro r2 (And.intro r3 (And.intro rbx rbf)))))
      have hbf9 : ((W7.alloc (.cells #[.int .i64 0] 3)).alloc (.cells #[.bool true] 4)).cell? ⟨w.heap.size + 1 + 1, 0, none⟩ = some (.func (.func 148) #[] #[.pointer (some ⟨w.heap.size + 1, 0, none⟩)]) := cell_keep2 _ _ rbf
      clear hW7 hh hsm hc7 R7 r0 r1 r2 r3 rbx rbf rm hb7 q0 q1 q2 q3 bx5 bf5 hm5 h5sz
      go_wp2_with fail
      obtain ⟨r0, r1, r2, r3, rbx, rbf⟩ := HRB.out
      generalize hW9 : (W7.alloc (.cells #[.int .i64 0] 3)).alloc (.cells #[.bool true] 4) = W9
      obtain ⟨hb9, hs9, j0, j1, l0, l1⟩ := two_boxes W7 hW9
      have cl9 : ∀ b o u, W7.cell? ⟨b, o, none⟩ = some u → W9.cell? ⟨b, o, none⟩ = some u := fun b o u h => (hb9.cell (World.block_lt_of_cell? W7 _ h)).trans h
      have R9 := HR7.out.below hb9
      refine (all1IK_any R9.cache (w.heap.size + 1) (cl9 _ _ _ rbx) 99 _ (fun args W => call_all1 args W) (fun _ n W => AllAt W9 (W7.heap.size + 1) W7.heap.size n W) ?_ (fun _ _ _ h => h.drew) ?_ ?_).mono ?_
      · intro b n W hJ x hx hT
        refine hJ.turn.block x hx ?_
        rcases hT with hT | rfl
        · have := hT.2; omega
        · omega
      · exact ⟨Turn.refl _ _, j1, j0, l1, l0⟩
      · intro n e W hE hJ
        have hsame : ∀ S : Nat → Prop, (∀ x, S x → x < w.heap.size) → Same S W9 W := fun S hS x hx hs => hJ.turn.block x hx (by have := hS x hs; omega)
        have hcp : ∀ b o u, b < w.heap.size + 3 → W9.cell? ⟨b, o, none⟩ = some u → W.cell? ⟨b, o, none⟩ = some u := fun b o u hb hu => by
          rw [← hu]
          exact World.cell?_of_block (w := W9) (a := ⟨b, o, none⟩) (hJ.turn.block b (World.block_lt_of_cell? W9 _ hu) (by omega))
        have RW := R9.frame (hsame _ (fun x h => h.2)) (hsame _ (fun x h => h.2)) (hsame _ (fun x h => h.2)) (hsame _ (fun x h => h.2))
        exact all1b_any (mp := mp) (bp := w.heap.size) (bf := w.heap.size + 1 + 1) (RW.ready (hcp _ _ _ (by omega) (cl9 _ _ _ rbx))) RW.ref hJ (by omega) (hcp _ _ _ (by omega) (cl9 _ _ _ r0)) (hcp _ _ _ (by omega) (cl9 _ _ _ r1)) (hcp _ _ _ (by omega) (cl9 _ _ _ r2)) (hcp _ _ _ (by omega) (cl9 _ _ _ r3))
          (hcp _ _ _ (by omega) (cl9 _ _ _ rbf)) hE
      · have fin : ∀ W n, AllAt W9 (W7.heap.size + 1) W7.heap.size n W → W.cell? ⟨W7.heap.size + 1, 0, none⟩ = some (.bool true) ∧ Below w.heap.size w W := fun W n hJ =>
          ⟨hJ.well, (HB7.out.trans (hb9.mono (by omega))).trans (hJ.turn.below (by omega) (fun x hx => by omega))⟩
        rintro ex W ⟨rfl, hJ⟩
        have hf : W.cell? ⟨W7.heap.size + 1, 0, none⟩ = some (.bool true) ∧ Below w.heap.size w W := by
          rcases hJ with hJ | ⟨n, hn, hJ⟩
          · exact fin _ _ hJ
          · exact fin _ _ hJ
        have hw := hf.1
        have HF := Lib.hid hf.2
        clear hJ fin hf R9 cl9 j0 j1 l0 l1 hb9 hW9 r0 r1 r2 r3 rbx rbf hbf9
        go_wp2_with fail
        go_ret
        exact ⟨rfl, HF.out⟩
    · have d1 : decide (N < (T.length : Int)) = false := by simp; omega
      have HS := Lib.hid (show w.ownsRow 0 120 2 (.slice am T.length cm) (upTo N T).length (rows (upTo N T)) from by unfold upTo; rw [if_neg (by omega), List.take_of_length_le (by omega)]; exact hom)
      clear hom hN hN2
      go_enter Try.func21, Try.ntmps21
      go_wp2_with fail
      refine (allIK_any c).mono ?_
      rintro ex W1 ⟨rfl, rfl⟩
      have hmX : (((w.alloc (.cells #[.pointer (some ⟨c, 0, none⟩), .pointer (some ⟨mp, 0, none⟩), .pointer (some ⟨kp, 0, none⟩), .pointer (some ⟨vp, 0, none⟩)] 44)).alloc (.cells #[.pointer (some ⟨c, 0, none⟩)] 42)).alloc (.cells #[.func (.func 148) #[] #[.pointer (some ⟨w.heap.size + 1, 0, none⟩)]] 165)).cell? ⟨mp, 1, none⟩ = some (.slice am T.length cm) := by
        have hbX := (all_boxes w c mp kp vp (.func (.func 148) #[] #[.pointer (some ⟨w.heap.size + 1, 0, none⟩)]) (t1 := 44) (t2 := 42) (t3 := 165) rfl).1
        exact (hbX.cell (World.block_lt_of_cell? w _ hmc)).trans hmc
      go_wp2_with fail
      clear hmX
      generalize hW3 : ((w.alloc (.cells #[.pointer (some ⟨c, 0, none⟩), .pointer (some ⟨mp, 0, none⟩), .pointer (some ⟨kp, 0, none⟩), .pointer (some ⟨vp, 0, none⟩)] 44)).alloc (.cells #[.pointer (some ⟨c, 0, none⟩)] 42)).alloc (.cells #[.func (.func 148) #[] #[.pointer (some ⟨w.heap.size + 1, 0, none⟩)]] 165) = W3
      obtain ⟨hb3, hs3, p0, p1, p2, p3, bx0, bf0⟩ := all_boxes w c mp kp vp _ hW3
      have R3 := HR.out.below hb3
      have hm3 := (hb3.cell (World.block_lt_of_cell? w _ hmc)).trans hmc
      refine (givenIK_any (mp := mp) (R3.ready bx0) N).mono ?_
      rintro ex W4 ⟨va, rfl, hownA, hb4⟩
      have cl4 : ∀ b o u, W3.cell? ⟨b, o, none⟩ = some u → W4.cell? ⟨b, o, none⟩ = some u := fun b o u h => (hb4.cell (World.block_lt_of_cell? W3 _ h)).trans h
      have R4 := R3.below hb4
      have p0' := cl4 _ _ _ p0
      have p1' := cl4 _ _ _ p1
      have p2' := cl4 _ _ _ p2
      have p3' := cl4 _ _ _ p3
      have bx4 := cl4 _ _ _ bx0
      have bf4 := cl4 _ _ _ bf0
      have hm4 := cl4 _ _ _ hm3
      have HB3 := Lib.hid hb3
      have HB4 := Lib.hid hb4
      have HA := Lib.hid hownA
      have HR4 := Lib.hid R4
      have HBX := Lib.hid bx4
      clear hW3 p0 p1 p2 p3 bx0 bf0 hm3 cl4 R3 R4 hb3 hb4 hownA hmc
      go_wp2_with fail
      refine (givenIK_any (mp := mp) (HR4.out.ready HBX.out) (-1)).mono ?_
      rintro ex W5 ⟨vb, rfl, hownB, hb5⟩
      have cl5 : ∀ b o u, W4.cell? ⟨b, o, none⟩ = some u → W5.cell? ⟨b, o, none⟩ = some u := fun b o u h => (hb5.cell (World.block_lt_of_cell? W4 _ h)).trans h
      have R5 := HR4.out.below hb5
      have q0 := cl5 _ _ _ p0'
      have q1 := cl5 _ _ _ p1'
      have q2 := cl5 _ _ _ p2'
      have q3 := cl5 _ _ _ p3'
      have bx5 := cl5 _ _ _ bx4
      have bf5 := cl5 _ _ _ bf4
      have hm5 := cl5 _ _ _ hm4
      have hup : upTo (-1) (codeE KL VL E) = codeE KL VL E := by unfold upTo; rw [if_pos (by omega)]
      rw [hup, HT.out] at hownB
      have hA5 := ownsRow_same HA.out (Below.toSame hb5 (S := fun _ => True)) (fun _ _ => trivial)
      rw [HT.out] at hA5
      have hb35 : Below w.heap.size w W5 := (HB3.out.trans (HB4.out.mono (by omega))).trans (hb5.mono (by have := HB4.out.size; omega))
      have hS5 := ownsRow_same HS.out (Below.toSame hb35 (S := fun _ => True)) (fun _ _ => trivial)
      have hO5 := ownsRow_same HOM.out (Below.toSame hb35 (S := fun _ => True)) (fun _ _ => trivial)
      have h5sz : w.heap.size + 3 ≤ W5.heap.size := by have := HB4.out.size; have := hb5.size; omega
      have HR5 := Lib.hid R5
      have HB5 := Lib.hid hb35
      have HA5 := Lib.hid hA5
      have HS5 := Lib.hid hS5
      have HO5 := Lib.hid hO5
      have HB := Lib.hid hownB
      clear cl5 p0' p1' p2' p3' bx4 bf4 hm4 R5 hup hA5 hS5 hO5 hownB hb5 hb35 HBX
      go_wp2_with fail
      refine (same_eq HA5.out HS5.out).mono ?_
      rintro ex W6 ⟨rfl, n6, rfl⟩
      go_wp2_with fail
      refine (same_eq (w := W5.drewN n6) (L := T) HB.out HO5.out).mono ?_
      rintro ex W7 ⟨rfl, n7, hW7⟩
      have hh : W7.heap = W5.heap := by rw [hW7]; rfl
      have hsm : ∀ S : Nat → Prop, Same S W5 W7 := fun S k _ _ => by rw [hh]
      have hc7 : ∀ a, W7.cell? a = W5.cell? a := fun a => by unfold World.cell?; rw [hh]
      have R7 := HR5.out.frame (hsm _) (hsm _) (hsm _) (hsm _)
      have r0 := (hc7 _).trans q0
      have r1 := (hc7 _).trans q1
      have r2 := (hc7 _).trans q2
      have r3 := (hc7 _).trans q3
      have rbx := (hc7 _).trans bx5
      have rbf := (hc7 _).trans bf5
      have rm := (hc7 _).trans hm5
      have hb7 : Below w.heap.size w W7 := HB5.out.trans ⟨by rw [hW7]; rfl, by rw [hW7]; rfl, by rw [hW7]; rfl, by rw [hh]; exact Nat.le_refl _, fun k _ => by rw [hh]⟩
      have h7sz : w.heap.size + 3 ≤ W7.heap.size := by rw [hh]; exact h5sz
      have HB7 := Lib.hid hb7
      have HR7 := Lib.hid R7
      have HRB := Lib.hid (And.intro r0 (And.intro r1 (And.intro r2 (And.intro r3 (And.intro rbx rbf)))))
      have hbf9 : ((W7.alloc (.cells #[.int .i64 0] 3)).alloc (.cells #[.bool true] 4)).cell? ⟨w.heap.size + 1 + 1, 0, none⟩ = some (.func (.func 148) #[] #[.pointer (some ⟨w.heap.size + 1, 0, none⟩)]) := cell_keep2 _ _ rbf
      clear hW7 hh hsm hc7 R7 r0 r1 r2 r3 rbx rbf rm hb7 q0 q1 q2 q3 bx5 bf5 hm5 h5sz
      go_wp2_with fail
      obtain ⟨r0, r1, r2, r3, rbx, rbf⟩ := HRB.out
      generalize hW9 : (W7.alloc (.cells #[.int .i64 0] 3)).alloc (.cells #[.bool true] 4) = W9
      obtain ⟨hb9, hs9, j0, j1, l0, l1⟩ := two_boxes W7 hW9
      have cl9 : ∀ b o u, W7.cell? ⟨b, o, none⟩ = some u → W9.cell? ⟨b, o, none⟩ = some u := fun b o u h => (hb9.cell (World.block_lt_of_cell? W7 _ h)).trans h
      have R9 := HR7.out.below hb9
      refine (all1IK_any R9.cache (w.heap.size + 1) (cl9 _ _ _ rbx) 99 _ (fun args W => call_all1 args W) (fun _ n W => AllAt W9 (W7.heap.size + 1) W7.heap.size n W) ?_ (fun _ _ _ h => h.drew) ?_ ?_).mono ?_
      · intro b n W hJ x hx hT
        refine hJ.turn.block x hx ?_
        rcases hT with hT | rfl
        · have := hT.2; omega
        · omega
      · exact ⟨Turn.refl _ _, j1, j0, l1, l0⟩
      · intro n e W hE hJ
        have hsame : ∀ S : Nat → Prop, (∀ x, S x → x < w.heap.size) → Same S W9 W := fun S hS x hx hs => hJ.turn.block x hx (by have := hS x hs; omega)
        have hcp : ∀ b o u, b < w.heap.size + 3 → W9.cell? ⟨b, o, none⟩ = some u → W.cell? ⟨b, o, none⟩ = some u := fun b o u hb hu => by
          rw [← hu]
          exact World.cell?_of_block (w := W9) (a := ⟨b, o, none⟩) (hJ.turn.block b (World.block_lt_of_cell? W9 _ hu) (by omega))
        have RW := R9.frame (hsame _ (fun x h => h.2)) (hsame _ (fun x h => h.2)) (hsame _ (fun x h => h.2)) (hsame _ (fun x h => h.2))
        exact all1b_any (mp := mp) (bp := w.heap.size) (bf := w.heap.size + 1 + 1) (RW.ready (hcp _ _ _ (by omega) (cl9 _ _ _ rbx))) RW.ref hJ (by omega) (hcp _ _ _ (by omega) (cl9 _ _ _ r0)) (hcp _ _ _ (by omega) (cl9 _ _ _ r1)) (hcp _ _ _ (by omega) (cl9 _ _ _ r2)) (hcp _ _ _ (by omega) (cl9 _ _ _ r3))
          (hcp _ _ _ (by omega) (cl9 _ _ _ rbf)) hE
      · have fin : ∀ W n, AllAt W9 (W7.heap.size + 1) W7.heap.size n W → W.cell? ⟨W7.heap.size + 1, 0, none⟩ = some (.bool true) ∧ Below w.heap.size w W := fun W n hJ =>
          ⟨hJ.well, (HB7.out.trans (hb9.mono (by omega))).trans (hJ.turn.below (by omega) (fun x hx => by omega))⟩
        rintro ex W ⟨rfl, hJ⟩
        have hf : W.cell? ⟨W7.heap.size + 1, 0, none⟩ = some (.bool true) ∧ Below w.heap.size w W := by
          rcases hJ with hJ | ⟨n, hn, hJ⟩
          · exact fin _ _ hJ
          · exact fin _ _ hJ
        have hw := hf.1
        have HF := Lib.hid hf.2
        clear hJ fin hf R9 cl9 j0 j1 l0 l1 hb9 hW9 r0 r1 r2 r3 rbx rbf hbf9
        go_wp2_with fail
        go_ret
        exact ⟨rfl, HF.out⟩

end Go.Proofs.Yteboancapfgdeaa.IK

/- Proved here: Oldest of a cache: a range over its iterator. -/
namespace Go.Proofs.Yteboancapfgdeaa.IK
open Go.RowKit Go.Shelf Go.Proofs.Cc
attribute [local go_sem] Oper.semAt_some

abbrev encsIK (p : I64 × KeyV) : Array Value := #[.int .i64 p.1.1, .agg #[.string p.2.name.1, .int .i64 p.2.n.1]]
def ptrBlk : Value → Nat | .pointer (some a) => a.block | _ => 0

theorem idxOf_nodup {l : List Nat} (hn : l.Nodup) {k x : Nat} (h : l[k]? = some x) : l.idxOf x = k := by
  have hk := List.getElem?_eq_some_iff.1 h
  obtain ⟨h1, h2⟩ := hk
  rw [← h2]
  exact hn.idxOf_getElem k h1

theorem wpIn_hid1 {F : Fence} {n : Nat} {P : Program} {c : Code} {Q : Exit → Act → World → Prop} {a : Act} {w : World}
    (h : ∀ Q' : Exit → Act → World → Prop, (∀ e a w, Q e a w → Q' e a w) → c.wpIn F n P Q' a w) : c.wpIn F n P Q a w := h Q (fun _ _ _ q => q)

set_option maxRecDepth 100000 in
set_option maxHeartbeats 1000000 in
theorem allIK_stops {w : World} {c : Nat} {S : Nat → Prop} {most : Nat} {E : List (Ent I64 KeyV)} (HC : CacheAt Try.prog 3 kdI kdK w c S most E) (bx : Nat) (hbx : w.cell? ⟨bx, 0, none⟩ = some (.pointer (some ⟨c, 0, none⟩)))
    (n : Nat) (hn : 1 ≤ n) (U : Nat → Prop) (hU : ∀ x, U x → x < w.heap.size → ¬ (S x ∨ x = bx)) :
    SeqStopsK Fence.wide n Try.prog 148 #[.pointer (some ⟨bx, 0, none⟩)] encsIK (Turn U) (fun xs => xs = E.map kv) (fun pre => pre <+: E.map kv) E.length w := fun l J Jx W hW hJ hJx hY h0 => by
  obtain ⟨b, h, D, C0⟩ := HC
  have hfr : ∀ W' : World, Turn (fun x => ¬ (S x ∨ x = bx)) w W' → Core Try.prog 3 kdI kdK W' c b h D S most E ∧ W'.cell? ⟨bx, 0, none⟩ = some (.pointer (some ⟨c, 0, none⟩)) := fun W' hb =>
    ⟨C0.frame (hb.same (fun x hx h => h (.inl hx))), (hb.same (T := fun x => x = bx) (fun x hx h => h (.inr hx))).cell rfl hbx⟩
  have hW' : Turn (fun x => ¬ (S x ∨ x = bx)) w W := Turn.of_below hW
  clear hW
  have hW := hW'
  clear hW'
  have HU := Lib.hid hU
  clear hU
  have C := (hfr _ hW).1
  have hb0 := (hfr _ hW).2
  have hc1 := C.head
  obtain ⟨x0, hx0, hh0⟩ : ∃ x0, (E.map Ent.blk ++ [h])[0]? = some x0 ∧ W.cell? ⟨h, 0, none⟩ = some (.pointer (some ⟨x0, 0, none⟩)) := ⟨_, (by cases E <;> rfl), (seg_first h h _ C.ring).1⟩
  have hnd : (E.map Ent.blk ++ [h]).Nodup := by
    have := List.nodup_cons.1 (List.nodup_cons.1 C.nod).2
    rw [List.nodup_append]
    exact ⟨this.2, by simp, fun a ha b hb e => this.1 (by simp at hb; rw [← hb, ← e]; exact ha)⟩
  have HX0 := Lib.hid hx0
  have HFR := Lib.hid hfr
  have HY := Lib.hid hY
  have H0 := Lib.hid h0
  have HW := Lib.hid hW
  have HJ := Lib.hid hJ
  have HND := Lib.hid hnd
  clear hx0 hfr hY h0 hW hJ hnd C C0 hbx
  refine callsIn_of_wp Try.func148 rfl trivial ?_ rfl
  simp only [Try.ntmps148, List.size_toArray, List.length_cons, List.length_nil, Nat.reduceAdd, Nat.reduceSub, Array.replicate_succ, Array.replicate_zero, List.push_toArray, List.append_toArray, List.nil_append, List.cons_append]
  gi_wp2
  gi_loopw [3] (fun p wr => ∃ k x, p = .pointer (some ⟨x, 0, none⟩) ∧ (E.map Ent.blk ++ [h])[k]? = some x ∧ k ≤ E.length ∧ Turn (fun x => ¬ (S x ∨ x = bx)) w wr ∧ J ((E.map kv).take k) wr)
    (fun p _ => E.length - (E.map Ent.blk ++ [h]).idxOf (ptrBlk p))
  case atStart =>
    exact ⟨0, x0, rfl, HX0.out, Nat.zero_le _, HW.out, H0.out⟩
  case round =>
    obtain ⟨k, x, rfl, hx, hkl, hB, hJk⟩ := hrel
    have C := (HFR.out _ hB).1
    have hb1 := (HFR.out _ hB).2
    have hc1 := C.head
    have HX := Lib.hid hx
    have HB := Lib.hid hB
    have HJK := Lib.hid hJk
    by_cases hke : k = E.length
    · subst hke
      have hxh : x = h := by
        rw [List.getElem?_append_right (by simp)] at hx
        simp at hx
        exact hx.symm
      subst hxh
      obtain ⟨j0, hj0, -⟩ := infoEntIK
      have hneq : (binOp .neq 224 (.pointer (some ⟨x, 0, none⟩)) (.pointer (some ⟨x, 0, none⟩))).run Try.prog wr = .ok (.bool false) wr := run_neq_ptr_same _ Try.underlying224 hj0
      clear hx hB hJk C hj0 j0
      gi_wp2
      go_end0
      have hjk := HJK.out
      rw [List.take_of_length_le (by simp)] at hjk
      exact ⟨⟨_, rfl⟩, .inl ⟨_, rfl, hjk⟩⟩
    · have hkl' : k < E.length := by omega
      have hE := List.getElem?_eq_getElem hkl'
      obtain ⟨e, he⟩ : ∃ e, E[k] = e := ⟨_, rfl⟩
      rw [he] at hE
      have hex : x = e.blk := by
        rw [List.getElem?_append_left (by simp; omega), List.getElem?_map, hE] at hx
        simp at hx
        exact hx.symm
      subst hex
      have hin : e ∈ E := List.mem_of_getElem? hE
      have hne : e.blk ≠ h := fun y => (List.nodup_cons.1 (List.nodup_cons.1 C.nod).2).1 (y ▸ List.mem_map_of_mem hin)
      have e2 : wr.cell? ⟨e.blk, 2, none⟩ = some (.int .i64 e.key.1) := C.ents e hin 0 _ rfl
      have e3 : wr.cell? ⟨e.blk, 3, none⟩ = some (.string e.val.name.1) := C.ents e hin 1 _ rfl
      have e4 : wr.cell? ⟨e.blk, 4, none⟩ = some (.int .i64 e.val.n.1) := C.ents e hin 2 _ rfl
      obtain ⟨j0, hj0, hj1⟩ := infoEntIK
      have hneq : (binOp .neq 224 (.pointer (some ⟨e.blk, 0, none⟩)) (.pointer (some ⟨h, 0, none⟩))).run Try.prog wr = .ok (.bool true) wr := run_neq_ptr_other Try.underlying224 hj0 hj1 (fun y => by injection y with y; exact hne y) (C.live _ (List.mem_cons_of_mem _ (List.mem_map_of_mem hin))) (C.live _ (by simp))
      have hJd : J ((E.map kv).take k) wr.drew := HJ.out _ _ _ none hJk ⟨rfl, rfl, rfl, Nat.le_refl _, fun _ _ _ => rfl⟩ (fun r e => by cases e)
      obtain ⟨fn, tmps, assign, body, hy, hR⟩ := HY.out _ (kv e) wr.drew hJd (by simp; omega)
      dsimp only [encsIK, kv] at hy
      have hR2 := hR.mono (R' := fun ex W' => ∃ bb, ex = .returned (.bool bb) ∧ (bb = true ∧ J ((E.map kv).take k ++ [kv e]) W' ∧ Turn U wr.drew W' ∨ bb = false ∧ Jx ((E.map kv).take k ++ [kv e]) W')) (by
        rintro ex W' (⟨rfl, h1, h2⟩ | ⟨rfl, h1⟩)
        · exact ⟨true, rfl, .inl ⟨rfl, h1, h2⟩⟩
        · exact ⟨false, rfl, .inr ⟨rfl, h1⟩⟩)
      clear hR
      have hmix : (Try.prog).follows .mixedOrders = true := by kernel_rfl
      have HE := Lib.hid hE
      have HIN := Lib.hid hin
      clear hj0 hj1 j0 hx hB hJk C hE hin he hJd
      gi_wp2
      have HR2 := Lib.hid hR2
      clear hR2 hneq hb1 hc1 hh0 hb0 HX0 H0 HW HY
      gi_region_with_o ((with_reducible refine RoundIn.mono HR2.out ?_); rintro ex W3 ⟨bb, rfl, hpost⟩)
      all_goals
        rcases hpost with ⟨rfl, hJ1, hk1⟩ | ⟨rfl, hx1⟩
        · have hB3 : Turn (fun x => ¬ (S x ∨ x = bx)) w W3 := (HB.out.drew).trans' hk1 (fun x hx => by
            by_cases hl : x < w.heap.size
            · exact .inl (HU.out x hx hl)
            · exact .inr (by omega))
          have C1 := (HFR.out _ hB3).1
          have hlt1 : k + 1 < (E.map Ent.blk ++ [h]).length := by simp; omega
          obtain ⟨y, hy1⟩ : ∃ y, (E.map Ent.blk ++ [h])[k + 1]? = some y := ⟨_, List.getElem?_eq_getElem hlt1⟩
          have hek : (h :: E.map Ent.blk)[k + 1]? = some e.blk := by
            rw [List.getElem?_cons_succ, List.getElem?_map, HE.out]; rfl
          have hnext := (seg_at _ _ _ _ _ _ C1.ring hek hy1).1
          have HYY := Lib.hid hy1
          have HJ1 := Lib.hid hJ1
          have HB3 := Lib.hid hB3
          clear C1 hlt1 hy1 hek hJ1 hk1 hB3 hy
          gi_wp2
          go_roundw
          case rel =>
            refine ⟨k + 1, y, rfl, HYY.out, by omega, HB3.out, ?_⟩
            rw [List.take_add_one, List.getElem?_map, HE.out]
            exact HJ1.out
          case measure =>
            have i1 := idxOf_nodup HND.out HYY.out
            have i2 := idxOf_nodup HND.out HX.out
            show E.length - (E.map Ent.blk ++ [h]).idxOf y < E.length - (E.map Ent.blk ++ [h]).idxOf e.blk
            rw [i1, i2]
            omega
        · have HX1 := Lib.hid hx1
          clear hx1 hy
          gi_wp2
          first | refine bodyPost_ret (results_none rfl _ _ _) rfl ?_ | (repeat (first | rw [Exit.noGoto_ret] | simp only [Exit.inBlock] | simp only [Exit.then]); refine bodyPost_ret (results_none rfl _ _ _) rfl ?_)
          refine ⟨⟨_, rfl⟩, .inr ⟨_, ?_, HX1.out⟩⟩
          have ht : (E.map kv).take k ++ [kv e] = (E.map kv).take (k + 1) := by rw [List.take_add_one, List.getElem?_map, HE.out]; rfl
          rw [ht]
          exact List.take_prefix _ _

end Go.Proofs.Yteboancapfgdeaa.IK

/- Proved here: Oldest of a cache. -/
namespace Go.Proofs.Yteboancapfgdeaa.IK
open Go.RowKit Go.Shelf Go.Proofs.Cc
attribute [local go_sem] Oper.semAt_some

theorem cell_new_o (w : World) (v : Value) (t : TypeId) : (w.alloc (.cells #[v] t)).cell? ⟨w.heap.size, 0, none⟩ = some v ∧ (w.alloc (.cells #[v] t)).frozen? ⟨w.heap.size, 0, none⟩ = false := by
  have hh := (MapKept.heap_alloc w (.cells #[v] t)).1
  exact ⟨by unfold World.cell?; simp only; rw [hh]; rfl, by unfold World.frozen?; simp only; rw [hh]; rfl⟩

set_option maxRecDepth 100000 in
set_option maxHeartbeats 2000000 in
theorem oldestIK_any {w : World} {c : Nat} {S : Nat → Prop} {most : Nat} {E : List (Ent I64 KeyV)} (HC : CacheAt Try.prog 3 kdI kdK w c S most E) :
    Calls Try.prog 78 #[.pointer (some ⟨c, 0, none⟩)] w fun ex w' => ex = .returned (.tuple #[.int .i64 ((E.getLast?.map (·.key)).getD zeroI).1, .bool E.getLast?.isSome]) ∧ Below w.heap.size w w' := by
  refine (callsIn_wide (n := 3)).1 ?_
  have hro : Fence.wide.round = none := rfl
  refine callsIn_of_wp_marks Try.func78 rfl trivial ?_ rfl
  simp only [Try.ntmps78, List.size_toArray, List.length_cons, List.length_nil, Nat.reduceAdd, Nat.reduceSub, Array.replicate_succ, Array.replicate_zero, List.push_toArray, List.append_toArray, List.nil_append, List.cons_append]
  gi_wp2
  refine ⟨trivial, ?_⟩
  refine (callsIn_wide.2 (allIK_any c)).mono ?_
  rintro ex W1 ⟨rfl, hW1⟩
  have c0 := cell_new_o w (.int .i64 0) 3
  have c1 := cell_new_o (w.alloc (.cells #[.int .i64 0] 3)) (.bool false) 4
  have c2 := cell_new_o ((w.alloc (.cells #[.int .i64 0] 3)).alloc (.cells #[.bool false] 4)) (.pointer (some ⟨c, 0, none⟩)) 42
  simp only [World.size_alloc] at c1 c2
  rw [← show W1 = _ from hW1] at c2
  have hB0 : Below w.heap.size w W1 := by rw [hW1]; exact (((Below.refl _ w).alloc (Nat.le_refl _) _).alloc (by simp) _).alloc (by simp; omega) _
  have hsz : W1.heap.size = w.heap.size + 3 := by rw [hW1]; simp
  have k0 : W1.cell? ⟨w.heap.size, 0, none⟩ = some (.int .i64 0) ∧ W1.frozen? ⟨w.heap.size, 0, none⟩ = false := by
    rw [hW1]
    exact ⟨cell_alloc_o _ (cell_alloc_o _ c0.1), frozen_alloc_o _ (cell_alloc_o _ c0.1) (frozen_alloc_o _ c0.1 c0.2)⟩
  have k1 : W1.cell? ⟨w.heap.size + 1, 0, none⟩ = some (.bool false) ∧ W1.frozen? ⟨w.heap.size + 1, 0, none⟩ = false := by
    rw [hW1]
    exact ⟨cell_alloc_o _ c1.1, frozen_alloc_o _ c1.1 c1.2⟩
  have hC1 := (CacheAt.tight HC).frame (Below.toSame hB0)
  clear hW1 c0 c1
  gi_wp2
  refine wpIn_rangeFunc_ownF rfl (by omega) (gf := 148) (lb := #[.pointer (some ⟨w.heap.size + 1 + 1, 0, none⟩)]) rfl trivial (enters_of Try.func148 (by kernel_rfl) rfl)
    (allIK_stops hC1 (w.heap.size + 1 + 1) c2.1 (3 - 1) (by omega) (fun x => x = w.heap.size ∨ x = w.heap.size + 1 ∨ W1.heap.size ≤ x) (fun x hx hl hs => by rcases hs with hs | hs <;> omega)) (fun h k => h.trans (k.mono (fun x hx => .inl hx)))
    (fun W l o o' hl h _ _ => ((Turn.refl _ W).grown (grownBy_putObj' W l o') (fun x e => by cases e; exact .inl (.inr (.inr hl))))) (Below.refl _ _) (fun _ => rfl)
    (fun pre W => (W.cell? ⟨w.heap.size, 0, none⟩ = some (.int .i64 ((pre.getLast?.map (·.1)).getD zeroI).1) ∧ W.frozen? ⟨w.heap.size, 0, none⟩ = false ∧ W.cell? ⟨w.heap.size + 1, 0, none⟩ = some (.bool pre.getLast?.isSome) ∧ W.frozen? ⟨w.heap.size + 1, 0, none⟩ = false) ∧ Below w.heap.size w W)
    (fun _ _ _ => False)
    (OwnFrom.and (Own.from (fun s A B row hs hg hr => ⟨cell_kept hs.1 hg hr, (frozen_kept hs.1 hg hr).trans hs.2.1, cell_kept hs.2.2.1 hg hr, (frozen_kept hs.2.2.1 hg hr).trans hs.2.2.2⟩) _) (ownFrom_below (Nat.le_refl _) (by omega)))
    (fun _ _ _ _ _ hs _ _ => hs)
    ⟨⟨k0.1, k0.2, k1.1, k1.2⟩, hB0⟩
    (fun x => { tmps := #[.pointer (some ⟨c, 0, none⟩), undef, .pointer (some ⟨w.heap.size, 0, none⟩), .pointer (some ⟨w.heap.size + 1, 0, none⟩), .int .i64 x.1.1, .pointer (some ⟨c, 0, none⟩), .func (.func 148) #[] #[.pointer (some ⟨w.heap.size + 1 + 1, 0, none⟩)], .int .i64 x.1.1, .agg #[.string x.2.name.1, .int .i64 x.2.n.1], undef, undef, undef], defers := [] }) ?assign ?body ?done ?stop
  case assign =>
    intro l x W K hK
    gi_wp2
    exact hK
  case body =>
    rintro l pre x W ⟨⟨hc, hf, hc2, hf2⟩, hB⟩ _
    gi_wp2
    have hc' : (W.setCell ⟨w.heap.size, 0, none⟩ (.int .i64 x.1.1)).cell? ⟨w.heap.size + 1, 0, none⟩ = some (.bool pre.getLast?.isSome) := (cell_set_other (.inl (by omega))).trans hc2
    refine ⟨(KeepsOthers.setCell _ _ _).trans (KeepsOthers.setCell _ _ _), ((Turn.refl _ W).setCell (p := ⟨w.heap.size, 0, none⟩) (.inl (.inl rfl)) _).setCell (p := ⟨w.heap.size + 1, 0, none⟩) (.inl (.inr (.inl rfl))) _, ⟨?_, ?_, ?_, ?_⟩, (hB.setCell (p := ⟨w.heap.size, 0, none⟩) (Nat.le_refl _) _).setCell (p := ⟨w.heap.size + 1, 0, none⟩) (Nat.le_succ _) _⟩
    · rw [cell_set_other (.inl (by omega)), cell_set_same hc]
      simp
    · rw [World.frozen?_setCell, World.frozen?_setCell]; exact hf
    · rw [cell_set_same hc']
      simp
    · rw [World.frozen?_setCell, World.frozen?_setCell]; exact hf2
  case done =>
    rintro D ys W hD rfl ⟨⟨hc, hf, hc2, hf2⟩, hB⟩ hK
    have hv : ((E.map kv).getLast?.map (·.1)).getD zeroI = (E.getLast?.map (·.key)).getD zeroI := by rw [List.getLast?_map, Option.map_map]; rfl
    have hb : (E.map kv).getLast?.isSome = E.getLast?.isSome := by rw [List.getLast?_map, Option.isSome_map]
    rw [hv] at hc
    rw [hb] at hc2
    obtain ⟨kx, hkx⟩ : ∃ kx, (E.getLast?.map (·.key)).getD zeroI = kx := ⟨_, rfl⟩
    obtain ⟨bx, hbx⟩ : ∃ bx, E.getLast?.isSome = bx := ⟨_, rfl⟩
    rw [hkx] at hc
    rw [hbx] at hc2
    have HKX := Lib.hid hkx
    have HBX := Lib.hid hbx
    clear hv hb hkx hbx
    gi_wp2
    have hmix : (Try.prog).follows .mixedOrders = true := by kernel_rfl
    gi_region_with_o (fail)
    all_goals gi_wp2
    all_goals
      have hc' : (W.setCell ⟨w.heap.size, 0, none⟩ (.int .i64 kx.1)).cell? ⟨w.heap.size + 1, 0, none⟩ = some (.bool bx) := (cell_set_other (.inl (by omega))).trans hc2
      have hK' : ((W.setCell ⟨w.heap.size, 0, none⟩ (.int .i64 kx.1)).setCell ⟨w.heap.size + 1, 0, none⟩ (.bool bx)).drew.heap[D]? = some (.deferred (some [])) :=
        ((KeepsOthers.setCell W ⟨w.heap.size, 0, none⟩ (.int .i64 kx.1)).trans (KeepsOthers.setCell _ ⟨w.heap.size + 1, 0, none⟩ (.bool bx))).same D _ hK rfl
      have q1 : ((W.setCell ⟨w.heap.size, 0, none⟩ (.int .i64 kx.1)).setCell ⟨w.heap.size + 1, 0, none⟩ (.bool bx)).drew.cell? ⟨w.heap.size, 0, none⟩ = some (.int .i64 kx.1) := (cell_set_other (w := W.setCell ⟨w.heap.size, 0, none⟩ (.int .i64 kx.1)) (.inl (by omega))).trans (cell_set_same hc)
      have q2 : ((W.setCell ⟨w.heap.size, 0, none⟩ (.int .i64 kx.1)).setCell ⟨w.heap.size + 1, 0, none⟩ (.bool bx)).drew.cell? ⟨w.heap.size + 1, 0, none⟩ = some (.bool bx) := cell_set_same (w := W.setCell ⟨w.heap.size, 0, none⟩ (.int .i64 kx.1)) hc'
      have hc5 := cell_kept q1 (grownBy_putObj' _ D (.deferred none)) (fun r e => by cases e; exact ⟨_, hK', rfl⟩)
      have hc6 := cell_kept q2 (grownBy_putObj' _ D (.deferred none)) (fun r e => by cases e; exact ⟨_, hK', rfl⟩)
      have hBB := (((hB.setCell (p := ⟨w.heap.size, 0, none⟩) (Nat.le_refl _) (.int .i64 kx.1)).setCell (p := ⟨w.heap.size + 1, 0, none⟩) (Nat.le_succ _) (.bool bx)).drew).trans (belowK_b (w := w) (Nat.le_refl _) _ D _ (.deferred none) (by omega) hK' rfl rfl)
      refine ⟨by simp, .inl ⟨_, _, rfl, run_takeDeferred hK', ?_⟩⟩
      refine ⟨.tuple #[.int .i64 kx.1, .bool bx], ?_, by rw [HKX.out, HBX.out], hBB⟩
      simp [results, Try.f78, go_sem, hc5, hc6]
  case stop =>
    rintro D c' pre W hD hpre h hK
    exact h.elim

end Go.Proofs.Yteboancapfgdeaa.IK

/- Proved here: does, one call of a pair. -/
namespace Go.Proofs.Yteboancapfgdeaa.IK
open Go.RowKit Go.Proofs.Cc
attribute [local go_sem ↓] Go.wp_at_zero Go.wp_at_succ

abbrev QuadIK := Quad (K := I64) (V := KeyV) Try.prog 3 3 31 1 2 120 kdI kdK zeroI zeroK

structure DoesAt (o : Nat → Nat) (i : Nat) (w : World) (c mp kp vp most : Nat) (E : List (Ent I64 KeyV)) (KL : List I64) (VL : List KeyV) : Prop where
  quad : QuadIK o i w c mp kp vp most E (codeL KL VL (E.map kv)) KL VL
  key : ∀ p ∈ E.map kv, p.1 ∈ KL
  val : ∀ p ∈ E.map kv, p.2 ∈ VL
  len : E.length ≤ most

structure BoxAt (w : World) (b c mp kp vp : Nat) : Prop where
  p0 : w.cell? ⟨b, 0, none⟩ = some (.pointer (some ⟨c, 0, none⟩))
  p1 : w.cell? ⟨b, 1, none⟩ = some (.pointer (some ⟨mp, 0, none⟩))
  p2 : w.cell? ⟨b, 2, none⟩ = some (.pointer (some ⟨kp, 0, none⟩))
  p3 : w.cell? ⟨b, 3, none⟩ = some (.pointer (some ⟨vp, 0, none⟩))

theorem BoxAt.turn {A B : World} {S : Nat → Prop} {b c mp kp vp : Nat} (h : BoxAt A b c mp kp vp) (hT : Turn S A B) (hn : ¬ S b) : BoxAt B b c mp kp vp := by
  have hs : Same (fun x => x = b) A B := hT.same (fun x hx hS => hn (hx ▸ hS))
  exact ⟨hs.cell rfl h.p0, hs.cell rfl h.p1, hs.cell rfl h.p2, hs.cell rfl h.p3⟩

theorem BoxAt.drew {A : World} {b c mp kp vp : Nat} (h : BoxAt A b c mp kp vp) : BoxAt A.drew b c mp kp vp := ⟨h.p0, h.p1, h.p2, h.p3⟩

theorem box_new (w : World) (c mp kp vp : Nat) {w1 : World} {t : TypeId} (h : w.alloc (.cells #[.pointer (some ⟨c, 0, none⟩), .pointer (some ⟨mp, 0, none⟩), .pointer (some ⟨kp, 0, none⟩), .pointer (some ⟨vp, 0, none⟩)] t) = w1) :
    Below w.heap.size w w1 ∧ w1.heap.size = w.heap.size + 1 ∧ BoxAt w1 w.heap.size c mp kp vp := by
  subst h
  have g0 := (MapKept.heap_alloc w (.cells #[.pointer (some ⟨c, 0, none⟩), .pointer (some ⟨mp, 0, none⟩), .pointer (some ⟨kp, 0, none⟩), .pointer (some ⟨vp, 0, none⟩)] t)).1
  exact ⟨(Below.refl _ w).alloc (Nat.le_refl _) _, by simp, by unfold World.cell?; simp only; rw [g0]; rfl, by unfold World.cell?; simp only; rw [g0]; rfl, by unfold World.cell?; simp only; rw [g0]; rfl, by unfold World.cell?; simp only; rw [g0]; rfl⟩

/-- .. and the key in the block behind it. -/
structure Box2At (w : World) (b c mp kp vp : Nat) (x : KeyV) : Prop where
  p0 : w.cell? ⟨b, 0, none⟩ = some (.pointer (some ⟨c, 0, none⟩))
  p1 : w.cell? ⟨b, 1, none⟩ = some (.pointer (some ⟨mp, 0, none⟩))
  p2 : w.cell? ⟨b, 2, none⟩ = some (.pointer (some ⟨kp, 0, none⟩))
  p3 : w.cell? ⟨b, 3, none⟩ = some (.pointer (some ⟨vp, 0, none⟩))
  x0 : w.cell? ⟨b + 1, 0, none⟩ = some (.string x.name.1)
  x1 : w.cell? ⟨b + 1, 1, none⟩ = some (.int .i64 x.n.1)

theorem Box2At.turn {A B : World} {S : Nat → Prop} {b c mp kp vp : Nat} {x : KeyV} (h : Box2At A b c mp kp vp x) (hT : Turn S A B) (hn : ∀ y, b ≤ y → y < b + 2 → ¬ S y) : Box2At B b c mp kp vp x := by
  have hs : Same (fun y => b ≤ y ∧ y < b + 2) A B := hT.same (fun y hy hS => hn y hy.1 hy.2 hS)
  have h0 : b ≤ b ∧ b < b + 2 := by omega
  have h1 : b ≤ b + 1 ∧ b + 1 < b + 2 := by omega
  exact ⟨hs.cell h0 h.p0, hs.cell h0 h.p1, hs.cell h0 h.p2, hs.cell h0 h.p3, hs.cell h1 h.x0, hs.cell h1 h.x1⟩

theorem Box2At.below {A B : World} {b c mp kp vp : Nat} {x : KeyV} (h : Box2At A b c mp kp vp x) (hb : Below A.heap.size A B) : Box2At B b c mp kp vp x := by
  have hs : Same (fun _ => True) A B := Below.toSame hb
  exact ⟨hs.cell trivial h.p0, hs.cell trivial h.p1, hs.cell trivial h.p2, hs.cell trivial h.p3, hs.cell trivial h.x0, hs.cell trivial h.x1⟩

theorem Box2At.drew {A : World} {b c mp kp vp : Nat} {x : KeyV} (h : Box2At A b c mp kp vp x) : Box2At A.drew b c mp kp vp x := ⟨h.p0, h.p1, h.p2, h.p3, h.x0, h.x1⟩

theorem box2_new (w : World) (c mp kp vp : Nat) (x : KeyV) {w1 : World} {t t2 : TypeId} (h : (w.alloc (.cells #[.pointer (some ⟨c, 0, none⟩), .pointer (some ⟨mp, 0, none⟩), .pointer (some ⟨kp, 0, none⟩), .pointer (some ⟨vp, 0, none⟩)] t)).alloc (.cells #[.string x.name.1, .int .i64 x.n.1] t2) = w1) :
    Below w.heap.size w w1 ∧ w1.heap.size = w.heap.size + 2 ∧ Box2At w1 w.heap.size c mp kp vp x := by
  obtain ⟨b1, s1, B⟩ := box_new w c mp kp vp (t := t) rfl
  obtain ⟨b2, s2, x0, x1⟩ := box2 _ _ _ t2 h
  rw [s1] at x0 x1 s2
  have hs : Same (fun _ => True) _ w1 := Below.toSame b2
  exact ⟨b1.trans (b2.mono (by omega)), s2, hs.cell trivial B.p0, hs.cell trivial B.p1, hs.cell trivial B.p2, hs.cell trivial B.p3, x0, x1⟩

/-- What a call of a pair leaves. -/
def DonePost (o : Nat → Nat) (i : Nat) (w : World) (c mp kp vp most : Nat) (KL : List I64) (VL : List KeyV) (w' : World) : Prop :=
  ∃ o' E' KL' VL', DoesAt o' i w' c mp kp vp most E' KL' VL' ∧ KL'.length ≤ KL.length + 2 ∧ VL'.length ≤ VL.length + 2 ∧ (∀ x, x < w.heap.size → o' x = o x) ∧ Turn (fun x => i < o x ∧ o x ≤ i + 4) w w'

/-- What has turned since the call began, and the colours. -/
structure Sub (o : Nat → Nat) (i : Nat) (w : World) (o' : Nat → Nat) (w' : World) : Prop where
  same : ∀ x, x < w.heap.size → o' x = o x
  turn : Turn (fun x => i < o x ∧ o x ≤ i + 4) w w'

theorem Sub.step {o o3 : Nat → Nat} {i j : Nat} {w W W' : World} (h : Sub o i w o3 W) (hj : 1 ≤ j ∧ j ≤ 4) (hT : Turn (fun x => recolor o3 W (i + j) x = i + j) W W') : Sub o i w (recolor o3 W (i + j)) W' := by
  have hs := h.turn.size
  refine ⟨fun x hx => (recolor_old o3 W (i + j) x (by omega)).trans (h.same x hx), h.turn.trans' hT (fun x hx => ?_)⟩
  by_cases hl : x < w.heap.size
  · left
    rw [recolor_old o3 W (i + j) x (by omega), h.same x hl] at hx
    show i < o x ∧ o x ≤ i + 4
    omega
  · exact .inr (by omega)

theorem Sub.below {o o3 : Nat → Nat} {i : Nat} {w W W' : World} (h : Sub o i w o3 W) (hb : Below W.heap.size W W') : Sub o i w o3 W' := ⟨h.same, h.turn.trans (Turn.of_below hb)⟩

theorem codeE_L {KL : List I64} {VL : List KeyV} {E : List (Ent I64 KeyV)} : codeE KL VL E = codeL KL VL (E.map kv) := by unfold codeE codeL; rw [List.map_map]; rfl

theorem head_idxIK {K : Type} [DecidableEq K] {eT sz : Nat} {KK : Kd K} {z : K} {w : World} {k : Nat} {S : Nat → Prop} {L : List K} (R : CodesAt eT sz KK z w k S L) (h : L ≠ []) : z ∈ L ∧ idx L z = 0 := by
  rcases R.head with h' | ⟨r, rfl⟩
  · exact absurd h' h
  · exact ⟨by simp, by unfold idx; simp⟩

theorem DoesAt.pair {o : Nat → Nat} {i : Nat} {w : World} {c mp kp vp most : Nat} {E : List (Ent I64 KeyV)} {KL : List I64} {VL : List KeyV} (R : DoesAt o i w c mp kp vp most E KL VL) (hm : most ≤ 1048576) :
    PairAt w c mp kp vp (fun x => o x = i + 1) (fun x => o x = i + 2) (fun x => o x = i + 3) (fun x => o x = i + 4) most E KL VL :=
  ⟨R.quad.cache, by rw [codeE_L]; exact R.quad.ref, R.quad.keys, R.quad.vals, fun e he => R.key _ (List.mem_map_of_mem he), fun e he => R.val _ (List.mem_map_of_mem he), R.len, hm⟩

theorem DoesAt.below {o : Nat → Nat} {i : Nat} {w w' : World} {c mp kp vp most : Nat} {E : List (Ent I64 KeyV)} {KL : List I64} {VL : List KeyV} (R : DoesAt o i w c mp kp vp most E KL VL) (hb : Below w.heap.size w w') : DoesAt o i w' c mp kp vp most E KL VL :=
  ⟨R.quad.below hb, R.key, R.val, R.len⟩

/-- The entries' keys stand once. -/
theorem Quad.nodup {o : Nat → Nat} {i : Nat} {w : World} {c mp kp vp most : Nat} {E : List (Ent I64 KeyV)} {L : List (Int × Int)} {KL : List I64} {VL : List KeyV} (Q : QuadIK o i w c mp kp vp most E L KL VL) : (E.map Ent.key).Nodup := by
  obtain ⟨b, h, D, C⟩ := Q.cache
  exact C.keys

theorem mem_code {KL : List I64} {VL : List KeyV} {D : List (I64 × KeyV)} {n v : Int} (h : (n, v) ∈ codeL KL VL D) : ∃ p ∈ D, n = ((idx KL p.1 : Nat) : Int) ∧ v = ((idx VL p.2 : Nat) : Int) := by
  obtain ⟨p, hp, e⟩ := List.mem_map.1 h
  injection e with e1 e2
  exact ⟨p, hp, e1.symm, e2.symm⟩

set_option maxRecDepth 100000 in
set_option maxHeartbeats 8000000 in
theorem doesIK_any {o : Nat → Nat} {i : Nat} {w : World} {c mp kp vp most : Nat} {E : List (Ent I64 KeyV)} {KL : List I64} {VL : List KeyV} (R : DoesAt o i w c mp kp vp most E KL VL) (hm : most ≤ 1048576) (hKL : KL.length ≤ 900000) (hVL : VL.length ≤ 900000) (kind : Int) (k : I64) (v : KeyV) (stop : Int) :
    Calls Try.prog 17 #[.agg #[.pointer (some ⟨c, 0, none⟩), .pointer (some ⟨mp, 0, none⟩), .pointer (some ⟨kp, 0, none⟩), .pointer (some ⟨vp, 0, none⟩)], .int .i64 kind, .int .i64 k.1, .agg #[.string v.name.1, .int .i64 v.n.1], .int .i64 stop] w
      fun ex w' => ex = .returned (.bool true) ∧ DonePost o i w c mp kp vp most KL VL w' := by
  have HR := Lib.hid R
  clear R
  go_enter Try.func17, Try.ntmps17
  go_wp2_with fail
  generalize hw1 : (w.alloc (.cells #[.pointer (some ⟨c, 0, none⟩), .pointer (some ⟨mp, 0, none⟩), .pointer (some ⟨kp, 0, none⟩), .pointer (some ⟨vp, 0, none⟩)] 44)).alloc (.cells #[.string v.name.1, .int .i64 v.n.1] 31) = w1
  obtain ⟨hb1, hs1, hbox⟩ := box2_new w c mp kp vp v hw1
  obtain ⟨oA, hoA⟩ : ∃ oA, recolor o w 0 = oA := ⟨_, rfl⟩
  have QA : QuadIK oA i w1 c mp kp vp most E (codeL KL VL (E.map kv)) KL VL := by rw [← hoA]; exact (HR.out.quad.recolor 0).below hb1
  have hA0 := Lib.hid (show ∀ x, w.heap.size ≤ x → x < w.heap.size + 2 → oA x = 0 from fun x hx _ => by rw [← hoA]; exact recolor_new o w 0 _ hx)
  have hAo : ∀ x, x < w.heap.size → oA x = o x := fun x hx => by rw [← hoA]; exact recolor_old o w 0 x hx
  have HB1 := Lib.hid hb1
  clear hw1 hoA hb1
  have Q1 := (QA.below ((Below.refl _ w1).drew)).recolor (i + 3)
  have hn1 := recolor_new oA w1.drew (i + 3)
  have ho1 := recolor_old oA w1.drew (i + 3)
  obtain ⟨o1, ho1e⟩ : ∃ o1, recolor oA w1.drew (i + 3) = o1 := ⟨_, rfl⟩
  rw [ho1e] at Q1 hn1 ho1
  clear ho1e QA
  have hbo1 := Lib.hid (show ∀ x, w.heap.size ≤ x → x < w.heap.size + 2 → o1 x = 0 from fun x hx hx2 => (ho1 x (by show x < w1.heap.size; omega)).trans (hA0.out x hx hx2))
  have c2 := hbox.p2
  have c3 := hbox.p3
  have c4 := hbox.x0
  have c5 := hbox.x1
  have HBX := Lib.hid hbox
  have HQ1 := Lib.hid Q1
  have HN1 := Lib.hid hn1
  have HO1 := Lib.hid ho1
  clear hbox Q1 hn1 ho1
  go_wp2_with fail
  go_region_held3 (fun w' => w'.cell? ⟨w.heap.size, 2, none⟩ = some (.pointer (some ⟨kp, 0, none⟩)) ∧ w'.cell? ⟨w.heap.size, 3, none⟩ = some (.pointer (some ⟨vp, 0, none⟩)) ∧ w'.cell? ⟨w.heap.size + 1, 0, none⟩ = some (.string v.name.1) ∧ w'.cell? ⟨w.heap.size + 1, 1, none⟩ = some (.int .i64 v.n.1))
    (first
      | go_keep
      | exact ⟨(HBX3.out).p2, (HBX3.out).p3, (HBX3.out).x0, (HBX3.out).x1⟩
      | exact ⟨(HBX2.out).p2, (HBX2.out).p3, (HBX2.out).x0, (HBX2.out).x1⟩
      | exact ⟨(HBX.out.drew).p2, (HBX.out.drew).p3, (HBX.out.drew).x0, (HBX.out.drew).x1⟩)
    (first
      | (go_at_call_of 46 (Value.pointer (some (Addr.mk kp 0 none))); refine (ofI_any (w := w1.drew) HQ1.out.keys k (by omega)).mono ?_; rintro ex W2 ⟨KL', rfl, hK2, hkin, hT2, hpreK, hlK⟩; have HBX2 := Lib.hid (HBX.out.drew.turn hT2 (fun y hy1 hy2 => by show ¬ (o1 y = i + 3); have := hbo1.out y hy1 hy2; omega)); have HQ2 := Lib.hid ((HQ1.out.turnK HN1.out hT2 hK2).recolor (i + 4)); have HT2 := Lib.hid hT2)
      | (go_at_call_of 66 (Value.pointer (some (Addr.mk vp 0 none))); refine (ofK_any (w := W2) HQ2.out.vals v (by omega)).mono ?_; rintro ex W3 ⟨VL', rfl, hV3, hvin, hT3, hpreV, hlV⟩; have HBX3 := Lib.hid (HBX2.out.turn hT3 (fun y hy1 hy2 => by show ¬ (recolor o1 W2 (i + 4) y = i + 4); rw [recolor_old o1 W2 (i + 4) _ (by have := HT2.out.size; have e : w1.drew.heap.size = w1.heap.size := rfl; omega)]; have := hbo1.out y hy1 hy2; omega)); have HQ3 := Lib.hid (HQ2.out.turnV (recolor_new o1 W2 (i + 4)) hT3 hV3); have HT3 := Lib.hid hT3))
  have hpre : codeL KL VL (E.map kv) = codeL KL' VL' (E.map kv) := (codeL_pre HR.out.key HR.out.val hpreK hpreV).symm
  have HQ := HQ3.out
  rw [hpre] at HQ
  obtain ⟨o3, ho3⟩ : ∃ o3, recolor o1 W2 (i + 4) = o3 := ⟨_, rfl⟩
  have hS3 : Sub o i w o3 W3 := by
    have s1 : Sub o i w oA w1.drew := ⟨hAo, (Turn.of_below HB1.out).drew⟩
    have e1 : recolor oA w1.drew (i + 3) = o1 := by
      funext x
      by_cases hx : x < w1.drew.heap.size
      · rw [recolor_old _ _ _ _ hx, HO1.out x hx]
      · rw [recolor_new _ _ _ _ (by omega), HN1.out x (by omega)]
    have s2 : Sub o i w (recolor oA w1.drew (i + 3)) W2 := s1.step (j := 3) (by omega) (by rw [e1]; exact HT2.out)
    rw [e1] at s2
    have s3 := s2.step (j := 4) (by omega) HT3.out
    rw [ho3] at s3
    exact s3
  have hb3 := Lib.hid (show ∀ x, w.heap.size ≤ x → x < w.heap.size + 2 → o3 x = 0 from fun x hx hx2 => by
    rw [← ho3, recolor_old o1 W2 (i + 4) _ (by have := HT2.out.size; have e : w1.drew.heap.size = w1.heap.size := rfl; omega)]
    exact hbo1.out x hx hx2)
  rw [ho3] at HQ
  have hbs : w.heap.size + 2 ≤ W3.heap.size := by have := HT2.out.size; have := HT3.out.size; have e : w1.drew.heap.size = w1.heap.size := rfl; omega
  have D3 : DoesAt o3 i W3 c mp kp vp most E KL' VL' := ⟨HQ, fun p hp => hpreK.subset (HR.out.key p hp), fun p hp => hpreV.subset (HR.out.val p hp), HR.out.len⟩
  have HD := Lib.hid D3
  have HS := Lib.hid hS3
  have HK := Lib.hid hkin
  have HV := Lib.hid hvin
  have HLK := Lib.hid hlK
  have HLV := Lib.hid hlV
  have done : ∀ (o4 : Nat → Nat) (E4 : List (Ent I64 KeyV)) (W4 : World), DoesAt o4 i W4 c mp kp vp most E4 KL' VL' → Sub o i w o4 W4 → DonePost o i w c mp kp vp most KL VL W4 := fun _ _ _ d s => ⟨_, _, _, _, d, HLK.out, HLV.out, s.same, s.turn⟩
  have HDONE := Lib.hid done
  have q0 := HBX3.out.p0
  have q1 := HBX3.out.p1
  have q2 := HBX3.out.p2
  have q3 := HBX3.out.p3
  have q4 := HBX3.out.x0
  have q5 := HBX3.out.x1
  clear hpre HQ ho3 hS3 D3 hkin hvin hlK hlV hpreK hpreV hV3 hT3 hK2 hT2 done c2 c3 c4 c5 HQ1 HQ2 HQ3 HT2 HT3 HBX HBX2 HO1 HN1 hbo1 hA0 hAo HB1
  have hVne : VL' ≠ [] := List.ne_nil_of_mem HV.out
  have hKne : KL' ≠ [] := List.ne_nil_of_mem HK.out
  have hlL : (codeL KL' VL' (E.map kv)).length ≤ 1048576 := by unfold codeL; rw [List.length_map, List.length_map]; exact Nat.le_trans HD.out.len hm
  have HLL := Lib.hid hlL
  have HVZ := Lib.hid (head_idxIK HD.out.quad.vals hVne)
  have HKZ := Lib.hid (head_idxIK HD.out.quad.keys hKne)
  have HN0 := Lib.hid (show ((E.map kv).map (·.1)).Nodup from by rw [keys_kv]; exact Quad.nodup HD.out.quad)
  clear hVne hKne hlL
  by_cases h7 : kind = 7
  · subst h7
    go_wp2_with fail
    refine (allIK_pair (HD.out.pair hm) stop).mono ?_
    rintro ex W4 ⟨rfl, hb4⟩
    have HF := Lib.hid (HDONE.out _ _ _ (HD.out.below hb4) (HS.out.below hb4))
    clear hb4
    go_wp2_with fail
    go_ret
    exact ⟨rfl, HF.out⟩
  by_cases h1 : kind = 1
  · subst h1
    go_wp2_with fail
    have hQa := HD.out.quad.recolor (i + 1)
    have HQa := Lib.hid hQa
    clear hQa
    refine (getIK_any HQa.out.cache k).mono ?_
    rintro ex W4 (⟨hnk, rfl, hb4⟩ | ⟨p, e, q, hE, he, rfl, hC4, hT4⟩)
    · have HNK := Lib.hid (show ∀ x ∈ codeL KL' VL' (E.map kv), x.1 ≠ ((idx KL' k : Nat) : Int) from code_ne HD.out.key (fun p hp e => by obtain ⟨y, hy, rfl⟩ := List.mem_map.1 hp; exact hnk (List.mem_map.2 ⟨y, hy, e⟩)))
      clear hnk q0 q1 q2 q3 q4 q5
      go_upto_region 5 with fail
      generalize hV : W4.alloc (.cells #[.string ⟨#[]⟩, .int .i64 0] 31) = V
      obtain ⟨hbV, hsV, y0, y1⟩ := box2 W4 _ _ _ hV
      have hbW : Below W3.heap.size W3 V := hb4.trans (hbV.mono hb4.size)
      have HD4 := Lib.hid (HD.out.below hbW)
      have HS4 := Lib.hid (HS.out.below hbW)
      have hbx4 := HBX3.out.below hbW
      have r1 := hbx4.p1
      have r3 := hbx4.p3
      clear hV hbV hbW hb4 hbx4
      go_wp2_with fail
      refine (refGet_any HD4.out.quad.ref ((idx KL' k : Nat) : Int) HLL.out).mono ?_
      rintro ex W5 (⟨hno, rfl, rfl⟩ | ⟨p', v', q', hL, hp', rfl, hM, hT⟩)
      · clear hno
        go_wp2_with fail
        refine (ofK_q HD4.out.quad.vals zeroK HVZ.out.1).mono ?_
        rintro ex W6 ⟨rfl, hb6⟩
        rw [HVZ.out.2]
        have HD6 := Lib.hid (HD4.out.below hb6)
        have HS6 := Lib.hid (HS4.out.below hb6)
        clear r1 r3 y0 y1 hb6
        go_wp2_with fail
        go_ret
        exact ⟨rfl, HDONE.out _ _ _ HD6.out HS6.out⟩
      · exact absurd rfl (HNK.out (((idx KL' k : Nat) : Int), v') (by rw [hL]; simp))
    · have HQ4 := Lib.hid (HQa.out.turnC (recolor_new o3 W3 (i + 1)) hT4 (hC4.wider (fun x hx => .inl hx)))
      have HS4 := Lib.hid (HS.out.step (j := 1) (by omega) hT4)
      have hbx4 := HBX3.out.turn hT4 (fun y hy1 hy2 => by show ¬ (recolor o3 W3 (i + 1) y = i + 1); rw [recolor_old o3 W3 (i + 1) _ (by omega)]; have := hb3.out y hy1 hy2; omega)
      have hs4 := hT4.size
      have hb4 : ∀ x, w.heap.size ≤ x → x < w.heap.size + 2 → recolor o3 W3 (i + 1) x = 0 := fun x hx hx2 => (recolor_old o3 W3 (i + 1) _ (by omega)).trans (hb3.out x hx hx2)
      obtain ⟨o4, ho4⟩ : ∃ o4, recolor o3 W3 (i + 1) = o4 := ⟨_, rfl⟩
      rw [ho4] at HQ4 HS4 hb4
      have hLs : codeL KL' VL' (E.map kv) = codeL KL' VL' (p.map kv) ++ (((idx KL' k : Nat) : Int), ((idx VL' e.val : Nat) : Int)) :: codeL KL' VL' (q.map kv) := by rw [hE, ← he]; simp [codeL, kv]
      have hpk : ∀ x ∈ codeL KL' VL' (p.map kv), x.1 ≠ ((idx KL' k : Nat) : Int) := by
        have hn := HN0.out
        rw [hE, List.map_append, List.map_append] at hn
        have hn2 := List.nodup_append.1 hn
        refine code_ne (fun y hy => HD.out.key y (by rw [hE, List.map_append]; exact List.mem_append_left _ hy)) (fun y hy hyk => ?_)
        exact hn2.2.2 y.1 (List.mem_map_of_mem hy) k (by simp [kv, he]) hyk
      have HLS := Lib.hid hLs
      have HPK := Lib.hid hpk
      have HE := Lib.hid hE
      have HEV := Lib.hid (HD.out.val (kv e) (by rw [hE]; simp))
      have HEK := Lib.hid he
      have q0 := hbx4.p0
      have q1 := hbx4.p1
      have q2 := hbx4.p2
      have q3 := hbx4.p3
      have HBX4 := Lib.hid hbx4
      have hbs4 : w.heap.size + 2 ≤ W4.heap.size := by omega
      replace hb4 := Lib.hid hb4
      clear hT4 hC4 hLs hpk hE he hbx4 ho4 hs4 q0 q1 q2 q3 q4 q5
      go_upto_region 5 with fail
      generalize hV : W4.alloc (.cells #[.string e.val.name.1, .int .i64 e.val.n.1] 31) = V
      obtain ⟨hbV, hsV, y0, y1⟩ := box2 W4 _ _ _ hV
      have hsv : W4.heap.size < V.heap.size := by omega
      have hQv := HQ4.out.recolor 0
      have hov := recolor_old o4 W4 0
      have hnv := recolor_new o4 W4 0 W4.heap.size (Nat.le_refl _)
      obtain ⟨o4v, ho4v⟩ : ∃ o4v, recolor o4 W4 0 = o4v := ⟨_, rfl⟩
      rw [ho4v] at hQv hov hnv
      have HQV := Lib.hid (hQv.below hbV)
      have HS4V : Sub o i w o4v V := ⟨fun x hx => (hov x (by omega)).trans (HS4.out.same x hx), HS4.out.turn.trans (Turn.of_below hbV)⟩
      have HBX4V := Lib.hid (HBX4.out.below hbV)
      have hb4v : ∀ x, w.heap.size ≤ x → x < w.heap.size + 2 → o4v x = 0 := fun x hx hx2 => (hov x (by omega)).trans (hb4.out x hx hx2)
      have r1 := HBX4V.out.p1
      have r3 := HBX4V.out.p3
      have HHB := Lib.hid hb4v
      have HSV := Lib.hid HS4V
      clear hV hbV hsV HQ4 HS4 HBX4 hb4 hQv hov ho4v HS4V hb4v
      go_wp2_with fail
      have HQb := Lib.hid (HQV.out.recolor (i + 2))
      refine (refGet_any HQb.out.ref ((idx KL' k : Nat) : Int) HLL.out).mono ?_
      rintro ex W5 (⟨hno, rfl, rfl⟩ | ⟨p', v', q', hL, hp', rfl, hM, hT⟩)
      · exact absurd rfl (hno (((idx KL' k : Nat) : Int), ((idx VL' e.val : Nat) : Int)) (by rw [HLS.out]; simp))
      · obtain ⟨e1, e2, e3⟩ := split_unique (HLS.out.symm.trans hL) HPK.out hp'
        subst e2
        have HQ5 := Lib.hid (HQb.out.turnM (recolor_new o4v V (i + 2)) hT hM)
        have HS5 := Lib.hid (HSV.out.step (j := 2) (by omega) hT)
        have hbx5 := HBX4V.out.turn hT (fun y hy1 hy2 => by show ¬ (recolor o4v V (i + 2) y = i + 2); rw [recolor_old o4v V (i + 2) _ (by omega)]; have := HHB.out y hy1 hy2; omega)
        have q3 := hbx5.p3
        have hLL : (((idx KL' k : Nat) : Int), ((idx VL' e.val : Nat) : Int)) :: (p' ++ q') = codeL KL' VL' ((e :: (p ++ q)).map kv) := by rw [← e1, ← e3, ← HEK.out]; simp [codeL, kv]
        have HLX := Lib.hid hLL
        have hsV5 : Same (fun x => x = W4.heap.size) V W5 := hT.same (fun x hx h => by subst hx; change recolor o4v V (i + 2) _ = i + 2 at h; rw [recolor_old o4v V (i + 2) _ hsv] at h; omega)
        have s0 := hsV5.cell rfl y0
        have s1 := hsV5.cell rfl y1
        clear hL hp' e1 e3 hM hT hbx5 hLL r1 r3 y0 y1 hsV5 hnv
        go_wp2_with fail
        refine (ofK_q HQ5.out.vals e.val HEV.out).mono ?_
        rintro ex W6 ⟨rfl, hb6⟩
        have HQ6 := Lib.hid (HQ5.out.below hb6)
        have HS6 := Lib.hid (HS5.out.below hb6)
        clear q3 s0 s1 hb6
        go_wp2_with fail
        go_ret
        have hmem : ∀ y, y ∈ (e :: (p ++ q)).map kv → y ∈ E.map kv := by
          intro y hy
          rw [HE.out]
          simp only [List.map_cons, List.map_append, List.mem_cons, List.mem_append] at hy ⊢
          rcases hy with h | h | h
          · exact .inr (.inl h)
          · exact .inl h
          · exact .inr (.inr h)
        refine ⟨rfl, HDONE.out _ (e :: (p ++ q)) _ ⟨by have := HQ6.out; rw [HLX.out] at this; exact this, fun y hy => HD.out.key y (hmem y hy), fun y hy => HD.out.val y (hmem y hy), ?_⟩ HS6.out⟩
        have := HD.out.len
        rw [HE.out] at this
        simp at this ⊢
        omega
  have k1 : (kind == 1) = false := by rw [beq_eq_false_iff_ne]; exact h1
  have k7 : (kind == 7) = false := by rw [beq_eq_false_iff_ne]; exact h7
  clear h1 h7
  by_cases h2 : kind = 2
  · subst h2
    have HQa := Lib.hid (HD.out.quad.recolor (i + 1))
    go_wp2_with fail
    refine (putIK_any HQa.out.cache k v (Nat.le_trans HD.out.len hm) hm).mono ?_
    rintro ex W4 ⟨rfl, E2, hC4, hE2, hT4⟩
    have HQ4 := Lib.hid (HQa.out.turnC (recolor_new o3 W3 (i + 1)) hT4 hC4)
    have HS4 := Lib.hid (HS.out.step (j := 1) (by omega) hT4)
    have hbx4 := HBX3.out.turn hT4 (fun y hy1 hy2 => by show ¬ (recolor o3 W3 (i + 1) y = i + 1); rw [recolor_old o3 W3 (i + 1) _ (by omega)]; have := hb3.out y hy1 hy2; omega)
    have hs4 := hT4.size
    have hb4 : ∀ x, w.heap.size ≤ x → x < w.heap.size + 2 → recolor o3 W3 (i + 1) x = 0 := fun x hx hx2 => (recolor_old o3 W3 (i + 1) _ (by omega)).trans (hb3.out x hx hx2)
    obtain ⟨o4, ho4⟩ : ∃ o4, recolor o3 W3 (i + 1) = o4 := ⟨_, rfl⟩
    rw [ho4] at HQ4 HS4 hb4
    have q1 := hbx4.p1
    have hbs4 : w.heap.size + 2 ≤ W4.heap.size := by omega
    replace hb4 := Lib.hid hb4
    have HE2 := Lib.hid hE2
    have HQb := Lib.hid (HQ4.out.recolor (i + 2))
    clear hT4 hC4 hE2 hbx4 ho4 hs4
    go_wp2_with fail
    refine (refPut_any HQb.out.ref ((idx KL' k : Nat) : Int) ((idx VL' v : Nat) : Int) HLL.out).mono ?_
    rintro ex W5 ⟨rfl, hM, hT⟩
    have HQ5 := Lib.hid (HQb.out.turnM (recolor_new o4 W4 (i + 2)) hT hM)
    have HS5 := Lib.hid (HS4.out.step (j := 2) (by omega) hT)
    clear hM hT
    go_wp2_with fail
    go_ret
    have hcode := code_put (VL := VL') (k := k) (v := v) HD.out.key HN0.out (by rw [List.length_map]; exact HD.out.len : (E.map kv).length ≤ most)
    refine ⟨rfl, HDONE.out _ E2 _ ⟨by have := HQ5.out; rw [hcode, ← HE2.out] at this; exact this, fun y hy => ?_, fun y hy => ?_, ?_⟩ HS5.out⟩
    · rw [HE2.out] at hy
      rcases mem_putD hy with rfl | h
      · exact HK.out
      · exact HD.out.key y h
    · rw [HE2.out] at hy
      rcases mem_putD hy with rfl | h
      · exact HV.out
      · exact HD.out.val y h
    · have := length_putD (k := k) (v := v) (by rw [List.length_map]; exact HD.out.len : (E.map kv).length ≤ most)
      rw [← HE2.out, List.length_map] at this
      exact this
  have k2 : (kind == 2) = false := by rw [beq_eq_false_iff_ne]; exact h2
  clear h2
  by_cases h3 : kind = 3
  · subst h3
    have HQa := Lib.hid ((HD.out.quad.below ((Below.refl _ W3).drew)).recolor (i + 1))
    have HSd := Lib.hid (HS.out.below ((Below.refl _ W3).drew))
    have hbx := Box2At.drew HBX3.out
    have HBXd := Lib.hid hbx
    have hany : (codeL KL' VL' (E.map kv)).any (fun p => decide (p.1 = ((idx KL' k : Nat) : Int))) = decide (k ∈ E.map Ent.key) := by
      rw [code_any HD.out.key, Bool.eq_iff_iff, List.any_eq_true, decide_eq_true_iff]
      constructor
      · rintro ⟨y, hy, hk⟩
        obtain ⟨e, he, rfl⟩ := List.mem_map.1 hy
        exact List.mem_map.2 ⟨e, he, of_decide_eq_true hk⟩
      · intro h
        obtain ⟨e, he, hk⟩ := List.mem_map.1 h
        exact ⟨kv e, List.mem_map_of_mem he, decide_eq_true hk⟩
    have HANY := Lib.hid hany
    have hbsd : w.heap.size + 2 ≤ W3.drew.heap.size := hbs
    clear hany hbx
    go_wp2_with fail
    go_region_held3 (fun w' => w'.cell? ⟨w.heap.size, 0, none⟩ = some (.pointer (some ⟨c, 0, none⟩)) ∧ w'.cell? ⟨w.heap.size, 1, none⟩ = some (.pointer (some ⟨mp, 0, none⟩)) ∧ w'.cell? ⟨w.heap.size + 1, 0, none⟩ = some (.string v.name.1) ∧ w'.cell? ⟨w.heap.size + 1, 1, none⟩ = some (.int .i64 v.n.1))
      (first
        | go_keep
        | exact ⟨(HBX5.out).p0, (HBX5.out).p1, (HBX5.out).x0, (HBX5.out).x1⟩
        | exact ⟨(HBX4.out).p0, (HBX4.out).p1, (HBX4.out).x0, (HBX4.out).x1⟩
        | exact ⟨(HBXd.out).p0, (HBXd.out).p1, (HBXd.out).x0, (HBXd.out).x1⟩)
      (first
        | (go_at_call 75; refine (dropIK_any (w := W3.drew) HQa.out.cache k).mono ?_; rintro ex W4 ⟨rfl, hC4, hT4⟩; have HQ4 := Lib.hid (HQa.out.turnC (recolor_new o3 W3.drew (i + 1)) hT4 (hC4.wider (fun x hx => .inl hx))); have HS4 := Lib.hid (HSd.out.step (j := 1) (by omega) hT4); have HBX4 := Lib.hid (HBXd.out.turn hT4 (fun y hy1 hy2 => by show ¬ (recolor o3 W3.drew (i + 1) y = i + 1); rw [recolor_old o3 W3.drew (i + 1) _ (by omega)]; have := hb3.out y hy1 hy2; omega)); have HSZ4 := Lib.hid hT4.size; have HQb := Lib.hid (HQ4.out.recolor (i + 2)))
        | (go_at_call 52; refine (refDrop_any (w := W4) HQb.out.ref ((idx KL' k : Nat) : Int) HLL.out).mono ?_; rintro ex W5 ⟨hex, hM, hT⟩; rw [HANY.out] at hex; subst hex; have HQ5 := Lib.hid (HQb.out.turnM (recolor_new (recolor o3 W3.drew (i + 1)) W4 (i + 2)) hT hM); have HS5 := Lib.hid (HS4.out.step (j := 2) (by omega) hT); have HBX5 := Lib.hid (HBX4.out.turn hT (fun y hy1 hy2 => by show ¬ (recolor (recolor o3 W3.drew (i + 1)) W4 (i + 2) y = i + 2); rw [recolor_old _ W4 (i + 2) _ (by have := HSZ4.out; omega), recolor_old o3 W3.drew (i + 1) _ (by omega)]; have := hb3.out y hy1 hy2; omega))))
    all_goals
      go_wp2_with fail
      go_ret
      have hcode := code_rm (VL := VL') (k := k) HD.out.key HN0.out
      refine ⟨by simp, HDONE.out _ (rmE k E) _ ⟨by have := HQ5.out; rw [hcode, ← map_rmE] at this; exact this, fun y hy => ?_, fun y hy => ?_, Nat.le_trans (List.length_filter_le _ _) HD.out.len⟩ HS5.out⟩
      · rw [map_rmE] at hy
        exact HD.out.key y (List.mem_filter.1 hy).1
      · rw [map_rmE] at hy
        exact HD.out.val y (List.mem_filter.1 hy).1
  have k3 : (kind == 3) = false := by rw [beq_eq_false_iff_ne]; exact h3
  clear h3
  have hlen : (codeL KL' VL' (E.map kv)).length = E.length := by unfold codeL; rw [List.length_map, List.length_map]
  have HLEN := Lib.hid hlen
  clear hlen
  by_cases h4 : kind = 4
  · subst h4
    have HQa := Lib.hid ((HD.out.quad.below ((Below.refl _ W3).drew)).recolor (i + 1))
    have HSd := Lib.hid (HS.out.below ((Below.refl _ W3).drew))
    have hbx := Box2At.drew HBX3.out
    have HBXd := Lib.hid hbx
    have hbsd : w.heap.size + 2 ≤ W3.drew.heap.size := hbs
    clear hbx
    go_wp2_with fail
    go_region_held3 (fun w' => w'.cell? ⟨w.heap.size, 0, none⟩ = some (.pointer (some ⟨c, 0, none⟩)) ∧ w'.cell? ⟨w.heap.size, 1, none⟩ = some (.pointer (some ⟨mp, 0, none⟩)))
      (first
        | go_keep
        | exact ⟨(HBX5.out).p0, (HBX5.out).p1⟩
        | exact ⟨(HBX4.out).p0, (HBX4.out).p1⟩
        | exact ⟨(HBXd.out).p0, (HBXd.out).p1⟩)
      (first
        | (go_at_call 76; refine (clearIK_any (w := W3.drew) HQa.out.cache).mono ?_; rintro ex W4 ⟨rfl, hC4, hT4⟩; have HQ4 := Lib.hid (HQa.out.turnC (recolor_new o3 W3.drew (i + 1)) hT4 hC4); have HS4 := Lib.hid (HSd.out.step (j := 1) (by omega) hT4); have HBX4 := Lib.hid (HBXd.out.turn hT4 (fun y hy1 hy2 => by show ¬ (recolor o3 W3.drew (i + 1) y = i + 1); rw [recolor_old o3 W3.drew (i + 1) _ (by omega)]; have := hb3.out y hy1 hy2; omega)); have HSZ4 := Lib.hid hT4.size; have HQb := Lib.hid (HQ4.out.recolor (i + 2)))
        | (go_at_call 54; refine (refClear_any (w := W4) HQb.out.ref).mono ?_; rintro ex W5 ⟨hex, hM, hT⟩; rw [HLEN.out] at hex; subst hex; have HQ5 := Lib.hid (HQb.out.turnM (recolor_new (recolor o3 W3.drew (i + 1)) W4 (i + 2)) hT hM); have HS5 := Lib.hid (HS4.out.step (j := 2) (by omega) hT); have HBX5 := Lib.hid (HBX4.out.turn hT (fun y hy1 hy2 => by show ¬ (recolor (recolor o3 W3.drew (i + 1)) W4 (i + 2) y = i + 2); rw [recolor_old _ W4 (i + 2) _ (by have := HSZ4.out; omega), recolor_old o3 W3.drew (i + 1) _ (by omega)]; have := hb3.out y hy1 hy2; omega))))
    all_goals
      go_wp2_with fail
      go_ret
      exact ⟨by simp, HDONE.out _ [] _ ⟨HQ5.out, by simp, by simp, Nat.zero_le _⟩ HS5.out⟩
  have k4 : (kind == 4) = false := by rw [beq_eq_false_iff_ne]; exact h4
  clear h4
  by_cases h5 : kind = 5
  · subst h5
    obtain ⟨vm, hmc, hom, hvm⟩ := HD.out.quad.ref.list
    obtain ⟨am, cm, rfl⟩ := owns_shape hom
    rw [HLEN.out] at hmc
    have HDd := Lib.hid (HD.out.below ((Below.refl _ W3).drew))
    have HSd := Lib.hid (HS.out.below ((Below.refl _ W3).drew))
    clear hom hvm
    go_wp2_with fail
    go_region_held3 (fun w' => w'.cell? ⟨w.heap.size, 0, none⟩ = some (.pointer (some ⟨c, 0, none⟩)) ∧ w'.cell? ⟨w.heap.size, 1, none⟩ = some (.pointer (some ⟨mp, 0, none⟩)) ∧ w'.cell? ⟨mp, 1, none⟩ = some (.slice am E.length cm)) (go_keep)
      ((go_at_call 77; refine (lenIK_any (w := W3.drew) HDd.out.quad.cache).mono ?_; rintro ex W4 ⟨rfl, rfl⟩))
    all_goals
      go_wp2_with fail
      go_ret
      exact ⟨by simp, HDONE.out _ _ _ HDd.out HSd.out⟩
  have k5 : (kind == 5) = false := by rw [beq_eq_false_iff_ne]; exact h5
  clear h5
  by_cases h6 : kind = 6
  · subst h6
    go_wp2_with fail
    refine (oldestIK_any HD.out.quad.cache).mono ?_
    rintro ex W4 ⟨rfl, hb4⟩
    have cl4 : ∀ b o u, W3.cell? ⟨b, o, none⟩ = some u → W4.cell? ⟨b, o, none⟩ = some u := fun b o u h => (hb4.cell (World.block_lt_of_cell? W3 _ h)).trans h
    have r1 := cl4 _ _ _ q1
    have r2 := cl4 _ _ _ q2
    have HD4 := Lib.hid (HD.out.below hb4)
    have HS4 := Lib.hid (HS.out.below hb4)
    clear q0 q1 q2 q3 q4 q5 cl4 hb4
    go_wp2_with fail
    refine (refOldest_any HD4.out.quad.ref HLL.out).mono ?_
    rintro ex W5 ⟨rfl, hb5⟩
    have s2 := (hb5.cell (World.block_lt_of_cell? W4 _ r2)).trans r2
    have HD5 := Lib.hid (HD4.out.below hb5)
    have HS5 := Lib.hid (HS4.out.below hb5)
    have hlast : (codeL KL' VL' (E.map kv)).getLast?.isSome = E.getLast?.isSome := by unfold codeL; rw [List.getLast?_map, List.getLast?_map, Option.isSome_map, Option.isSome_map]
    have hval : ((codeL KL' VL' (E.map kv)).getLast?.map (·.1)).getD 0 = ((idx KL' ((E.getLast?.map (·.key)).getD zeroI) : Nat) : Int) := by
      unfold codeL
      rw [List.getLast?_map, List.getLast?_map]
      cases E.getLast? with
      | none => simp [HKZ.out.2]
      | some e => rfl
    have hin : (E.getLast?.map (·.key)).getD zeroI ∈ KL' := by
      cases he : E.getLast? with
      | none => exact HKZ.out.1
      | some e => exact HD.out.key (kv e) (List.mem_map_of_mem (List.mem_of_getLast? he))
    rw [hlast, hval]
    obtain ⟨kx, hkx⟩ : ∃ kx, (E.getLast?.map (·.key)).getD zeroI = kx := ⟨_, rfl⟩
    obtain ⟨bx, hbx⟩ : ∃ bx, E.getLast?.isSome = bx := ⟨_, rfl⟩
    rw [hkx] at hin ⊢
    rw [hbx]
    have HIN := Lib.hid hin
    clear r1 r2 hb5 hlast hval hin hkx hbx
    go_wp2_with fail
    refine (ofI_q HD5.out.quad.keys kx HIN.out).mono ?_
    rintro ex W6 ⟨rfl, rfl⟩
    go_wp2_with fail
    go_ret
    exact ⟨by simp, HDONE.out _ _ _ HD5.out HS5.out⟩
  have k6 : (kind == 6) = false := by rw [beq_eq_false_iff_ne]; exact h6
  clear h6
  go_wp2_with fail
  go_ret
  exact ⟨rfl, HDONE.out _ _ _ HD.out HS.out⟩

end Go.Proofs.Yteboancapfgdeaa.IK

/- Proved here: begin, a new pair; lot, the next number. -/
namespace Go.Proofs.Yteboancapfgdeaa.IK
open Go.RowKit Go.Proofs.Cc

theorem codes_new (w : World) (t : TypeId) {K : Type} [DecidableEq K] (eT sz : Nat) (KK : Kd K) (zero : K) (S : Nat → Prop) (hS : S w.heap.size) : CodesAt eT sz KK zero (w.alloc (.cells #[.slice none 0 0] t)) w.heap.size S [] := by
  have hh := (MapKept.heap_alloc w (.cells #[.slice none 0 0] t)).1
  exact ⟨⟨.slice none 0 0, by unfold World.cell?; simp only; rw [hh]; rfl, World.ownsRow_nil _ _ _ _, fun g e => by cases e⟩, ⟨_, _, hh⟩, hS, .inl rfl⟩

set_option maxRecDepth 100000 in
set_option maxHeartbeats 2000000 in
theorem beginIK_any {w : World} (m : Int) :
    Calls Try.prog 13 #[.int .i64 m] w fun ex w' => ∃ c mp kp vp, ex = .returned (.agg #[.pointer (some ⟨c, 0, none⟩), .pointer (some ⟨mp, 0, none⟩), .pointer (some ⟨kp, 0, none⟩), .pointer (some ⟨vp, 0, none⟩)]) ∧
      (∀ (o : Nat → Nat) (i : Nat), ∃ o' : Nat → Nat, DoesAt o' i w' c mp kp vp (clampN m) [] [] [] ∧ ∀ x, x < w.heap.size → o' x = o x) ∧ Below w.heap.size w w' := by
  go_enter Try.func13, Try.ntmps13
  go_wp2_with fail
  have hbw : Below w.heap.size w (w.alloc (.cells #[.pointer none, .pointer none, .pointer none, .pointer none] 44)) := (Below.refl _ w).alloc (Nat.le_refl _) _
  have hrw := (MapKept.heap_alloc w (.cells #[.pointer none, .pointer none, .pointer none, .pointer none] 44)).1
  have hs0 : (w.alloc (.cells #[.pointer none, .pointer none, .pointer none, .pointer none] 44)).heap.size = w.heap.size + 1 := by simp
  generalize w.alloc (.cells #[.pointer none, .pointer none, .pointer none, .pointer none] 44) = w0 at hbw hrw hs0 ⊢
  refine (newIK_any (w := w0) m).mono ?_
  rintro ex w1 ⟨rfl, hC, hb1⟩
  have HC := Lib.hid hC
  have HB1 := Lib.hid hb1
  clear hC hb1
  go_wp2_with fail
  refine (refNew_any (w := w1) m).mono ?_
  rintro ex w2 ⟨rfl, hM, hb2, hs2⟩
  have HM := Lib.hid hM
  have HB2 := Lib.hid hb2
  have hres : w2.heap[w.heap.size]? = some (.cells #[.pointer none, .pointer none, .pointer none, .pointer none] 44 (0, 0)) := by
    rw [hb2.block _ (by have := HB1.out.size; omega), HB1.out.block _ (by omega)]
    exact hrw
  have hlt2 : w.heap.size < w2.heap.size := by have := HB1.out.size; have := HB2.out.size; omega
  obtain ⟨A, hA⟩ : ∃ A, (w2.alloc (.cells #[.slice none 0 0] 100)).alloc (.cells #[.slice none 0 0] 125) = A := ⟨_, rfl⟩
  have hresA : A.heap[w.heap.size]? = some (.cells #[.pointer none, .pointer none, .pointer none, .pointer none] 44 (0, 0)) := by
    rw [← hA, Below.heap_alloc _ _ _ (by simp; omega), Below.heap_alloc _ _ _ hlt2]
    exact hres
  have g0 : A.cell? ⟨w.heap.size, 0, none⟩ = some (.pointer none) := by unfold World.cell?; simp only; rw [hresA]; rfl
  have g1 : A.cell? ⟨w.heap.size, 1, none⟩ = some (.pointer none) := by unfold World.cell?; simp only; rw [hresA]; rfl
  have g2 : A.cell? ⟨w.heap.size, 2, none⟩ = some (.pointer none) := by unfold World.cell?; simp only; rw [hresA]; rfl
  have g3 : A.cell? ⟨w.heap.size, 3, none⟩ = some (.pointer none) := by unfold World.cell?; simp only; rw [hresA]; rfl
  have f0 : ∀ o, A.frozen? ⟨w.heap.size, o, none⟩ = false := fun o => Live.frozen ⟨_, _, hresA⟩ o none
  have f00 := f0 0
  have f01 := f0 1
  have f02 := f0 2
  have f03 := f0 3
  have HRA := Lib.hid hresA
  clear hM hb2 hrw f0 hres hresA
  go_wp2_with fail
  try rw [hA]
  clear g0 g1 g2 g3 f00 f01 f02 f03
  have s0 := heap_setCell_same A w.heap.size 0 _ _ (.pointer (some ⟨w.heap.size + 1, 0, none⟩)) HRA.out
  have s1 := heap_setCell_same _ w.heap.size 1 _ _ (.pointer (some ⟨w1.heap.size, 0, none⟩)) s0
  have s2 := heap_setCell_same _ w.heap.size 2 _ _ (.pointer (some ⟨w1.heap.size + 1, 0, none⟩)) s1
  have s3 := heap_setCell_same _ w.heap.size 3 _ _ (.pointer (some ⟨w1.heap.size + 1 + 1, 0, none⟩)) s2
  have hT : Turn (fun x => x = w.heap.size) A ((((A.setCell ⟨w.heap.size, 0, none⟩ (.pointer (some ⟨w.heap.size + 1, 0, none⟩))).setCell ⟨w.heap.size, 1, none⟩ (.pointer (some ⟨w1.heap.size, 0, none⟩))).setCell ⟨w.heap.size, 2, none⟩ (.pointer (some ⟨w1.heap.size + 1, 0, none⟩))).setCell ⟨w.heap.size, 3, none⟩ (.pointer (some ⟨w1.heap.size + 1 + 1, 0, none⟩))) :=
    ((((Turn.refl (fun x => x = w.heap.size) A).setCell (p := ⟨w.heap.size, 0, none⟩) (.inl rfl) _).setCell (p := ⟨w.heap.size, 1, none⟩) (.inl rfl) _).setCell (p := ⟨w.heap.size, 2, none⟩) (.inl rfl) _).setCell (p := ⟨w.heap.size, 3, none⟩) (.inl rfl) _
  generalize (((A.setCell ⟨w.heap.size, 0, none⟩ (.pointer (some ⟨w.heap.size + 1, 0, none⟩))).setCell ⟨w.heap.size, 1, none⟩ (.pointer (some ⟨w1.heap.size, 0, none⟩))).setCell ⟨w.heap.size, 2, none⟩ (.pointer (some ⟨w1.heap.size + 1, 0, none⟩))).setCell ⟨w.heap.size, 3, none⟩ (.pointer (some ⟨w1.heap.size + 1 + 1, 0, none⟩)) = B at s3 hT ⊢
  have hinf : (Try.prog.info? 44).map (·.size) = some 4 := by kernel_rfl
  refine bodyPost_ret (results_cell_row rfl _ _ w.heap.size _ _ _ _ rfl s3 Try.underlying44 rfl hinf) rfl ?_
  have h2A : Below w2.heap.size w2 A := by rw [← hA]; exact ((Below.refl _ w2).alloc (Nat.le_refl _) _).alloc (by simp) _
  have h1A : Below w1.heap.size w1 A := HB2.out.trans (h2A.mono HB2.out.size)
  have hAs : A.heap.size = w2.heap.size + 2 := by rw [← hA]; simp
  have hz1 := HB1.out.size
  refine ⟨w.heap.size + 1, w1.heap.size, w1.heap.size + 1, w1.heap.size + 1 + 1, rfl, fun o i => ?_, ?_⟩
  · refine ⟨fun x => if x < w.heap.size then o x else if x < w0.heap.size then 0 else if x < w1.heap.size then i + 1 else if x = w1.heap.size then i + 2 else if x = w1.heap.size + 1 then i + 3 else i + 4, ⟨⟨?_, ?_, ?_, ?_⟩, by simp, by simp, Nat.zero_le _⟩, fun x hx => by simp only; rw [if_pos hx]⟩
    · have c1 := CacheAt.tight (HC.out (fun x => w0.heap.size ≤ x) (fun _ h => h))
      rw [hs0] at c1
      refine ((c1.frame (Below.toSame h1A)).frame (hT.same (fun x h h' => by omega))).wider (fun x hx => ?_)
      rw [if_neg (by omega), if_neg (by omega), if_pos hx.2]
    · have c2 := HM.out (fun x => x = w1.heap.size) rfl
      refine ((c2.frame (Below.toSame h2A)).frame (hT.same (fun x h h' => by omega))).wider (fun x hx => ?_)
      rw [if_neg (by omega), if_neg (by omega), if_neg (by omega), if_pos hx]
    · have c3 := codes_new w2 100 3 1 kdI zeroI (fun x => x = w2.heap.size) rfl
      have hb3 : Below (w2.alloc (.cells #[.slice none 0 0] 100)).heap.size (w2.alloc (.cells #[.slice none 0 0] 100)) A := by rw [← hA]; exact (Below.refl _ _).alloc (Nat.le_refl _) _
      have c4 := ((c3.frame (Below.toSame hb3)).frame (hT.same (fun x h h' => by omega)))
      rw [hs2] at c4
      refine c4.wider (fun x hx => ?_)
      rw [if_neg (by omega), if_neg (by omega), if_neg (by omega), if_neg (by omega), if_pos hx]
    · have c3 := codes_new (w2.alloc (.cells #[.slice none 0 0] 100)) 125 31 2 kdK zeroK (fun x => x = (w2.alloc (.cells #[.slice none 0 0] 100)).heap.size) rfl
      rw [hA] at c3
      have e : (w2.alloc (.cells #[.slice none 0 0] 100)).heap.size = w1.heap.size + 1 + 1 := by simp [hs2]
      rw [e] at c3
      refine (c3.frame (hT.same (fun x h h' => by omega))).wider (fun x hx => ?_)
      rw [if_neg (by omega), if_neg (by omega), if_neg (by omega), if_neg (by omega), if_neg (by omega)]
  · exact ((hbw.trans (HB1.out.mono (by omega))).trans (h1A.mono (by omega))).trans (hT.below (by omega) (fun x hx h => by omega))

end Go.Proofs.Yteboancapfgdeaa.IK

/- A pair between two calls, beside others. -/
namespace Go.Proofs.Yteboancapfgdeaa.IK
open Go.RowKit Go.Proofs.Cc

def PairW (o : Nat → Nat) (i : Nat) (w : World) (c mp kp vp most j : Nat) : Prop :=
  ∃ E KL VL, DoesAt o i w c mp kp vp most E KL VL ∧ KL.length ≤ 2 * j ∧ VL.length ≤ 2 * j

theorem PairW.below {o : Nat → Nat} {i : Nat} {w w' : World} {c mp kp vp most j : Nat} (h : PairW o i w c mp kp vp most j) (hb : Below w.heap.size w w') : PairW o i w' c mp kp vp most j := by
  obtain ⟨E, KL, VL, h1, h2, h3⟩ := h
  exact ⟨E, KL, VL, h1.below hb, h2, h3⟩

theorem PairW.other {o o' : Nat → Nat} {i k : Nat} {w w' : World} {c mp kp vp most j : Nat} (h : PairW o i w c mp kp vp most j) (A : Aft o k w o' w') (hd : i + 4 ≤ k ∨ k + 4 ≤ i) : PairW o' i w' c mp kp vp most j := by
  obtain ⟨E, KL, VL, h1, h2, h3⟩ := h
  exact ⟨E, KL, VL, ⟨h1.quad.other A hd, h1.key, h1.val, h1.len⟩, h2, h3⟩

theorem PairW.recolor {o : Nat → Nat} {i : Nat} {w : World} {c mp kp vp most j : Nat} (h : PairW o i w c mp kp vp most j) (t : Nat) : PairW (recolor o w t) i w c mp kp vp most j := by
  obtain ⟨E, KL, VL, h1, h2, h3⟩ := h
  exact ⟨E, KL, VL, ⟨h1.quad.recolor t, h1.key, h1.val, h1.len⟩, h2, h3⟩

theorem PairW.more {o : Nat → Nat} {i : Nat} {w : World} {c mp kp vp most j j' : Nat} (h : PairW o i w c mp kp vp most j) (hj : j ≤ j') : PairW o i w c mp kp vp most j' := by
  obtain ⟨E, KL, VL, h1, h2, h3⟩ := h
  exact ⟨E, KL, VL, h1, by omega, by omega⟩

theorem PairW.doesIK_ {o : Nat → Nat} {i : Nat} {w : World} {c mp kp vp most j : Nat} (h : PairW o i w c mp kp vp most j) (hm : most ≤ 1048576) (hj : j ≤ 20000) (kind : Int) (k : I64) (v : KeyV) (stop : Int) :
    Calls Try.prog 17 #[.agg #[.pointer (some ⟨c, 0, none⟩), .pointer (some ⟨mp, 0, none⟩), .pointer (some ⟨kp, 0, none⟩), .pointer (some ⟨vp, 0, none⟩)], .int .i64 kind, .int .i64 k.1, .agg #[.string v.name.1, .int .i64 v.n.1], .int .i64 stop] w
      fun ex w' => ex = .returned (.bool true) ∧ ∃ o', PairW o' i w' c mp kp vp most (j + 1) ∧ Aft o i w o' w' := by
  obtain ⟨E, KL, VL, h1, h2, h3⟩ := h
  refine (doesIK_any h1 hm (by omega) (by omega) kind k v stop).mono ?_
  rintro ex w' ⟨rfl, o', E', KL', VL', hD, hk, hv, ho, hT⟩
  exact ⟨rfl, o', ⟨E', KL', VL', hD, by omega, by omega⟩, ho, hT⟩

theorem PairW.allIK_ {o : Nat → Nat} {i : Nat} {w : World} {c mp kp vp most j : Nat} (h : PairW o i w c mp kp vp most j) (hm : most ≤ 1048576) (N : Int) :
    Calls Try.prog 21 #[.agg #[.pointer (some ⟨c, 0, none⟩), .pointer (some ⟨mp, 0, none⟩), .pointer (some ⟨kp, 0, none⟩), .pointer (some ⟨vp, 0, none⟩)], .int .i64 N] w
      fun ex w' => ex = .returned (.bool true) ∧ Below w.heap.size w w' := by
  obtain ⟨E, KL, VL, h1, h2, h3⟩ := h
  exact allIK_pair (h1.pair hm) N

/-- A new pair, at any place. -/
theorem pairIK_new {w : World} (m : Int) :
    Calls Try.prog 13 #[.int .i64 m] w fun ex w' => ∃ c mp kp vp, ex = .returned (.agg #[.pointer (some ⟨c, 0, none⟩), .pointer (some ⟨mp, 0, none⟩), .pointer (some ⟨kp, 0, none⟩), .pointer (some ⟨vp, 0, none⟩)]) ∧
      (∀ (o : Nat → Nat) (i : Nat), ∃ o' : Nat → Nat, PairW o' i w' c mp kp vp (clampN m) 0 ∧ ∀ x, x < w.heap.size → o' x = o x) ∧ Below w.heap.size w w' := by
  refine (beginIK_any m).mono ?_
  rintro ex w' ⟨c, mp, kp, vp, rfl, hnew, hb⟩
  refine ⟨c, mp, kp, vp, rfl, fun o i => ?_, hb⟩
  obtain ⟨o1, hD, ho⟩ := hnew o i
  exact ⟨o1, ⟨[], [], [], hD, Nat.le_refl _, Nat.le_refl _⟩, ho⟩

theorem clampN_le (m : Int) : clampN m ≤ 1048576 := by unfold clampN; omega

end Go.Proofs.Yteboancapfgdeaa.IK
