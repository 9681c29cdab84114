/- Proved here: Drop of a cache. -/
import Derived.Test.YteboancapfgdeaaCcKLLink
import Derived.Test.YteboancapfgdeaaCcKindsK
import Derived.Test.YteboancapfgdeaaCcBox
import Derived.Deep.DeepCutAuto
import Derived.BigQuiet
import Derived.StillTailTactics
namespace Go.Proofs.Yteboancapfgdeaa.KL
open Go.RowKit Go.Proofs.Cc

set_option maxRecDepth 100000 in
set_option maxHeartbeats 1000000 in
theorem dropKL_any {w : World} {c : Nat} {S : Nat → Prop} {most : Nat} {E : List (Ent KeyV SlV)} (HC0 : CacheAt Try.prog 31 kdK kdL w c S most E) (k : KeyV) :
    Calls Try.prog 116 #[.pointer (some ⟨c, 0, none⟩), .agg #[.string k.name.1, .int .i64 k.n.1]] w fun ex w' => ex = .returned (.bool (decide (k ∈ E.map Ent.key))) ∧ CacheAt Try.prog 31 kdK kdL w' c S most (rmE k E) ∧ Turn S w w' := by
  have H0 := Lib.hid (CacheAt.tight0 HC0)
  clear HC0
  go_enter Try.func116, Try.ntmps116
  go_wp2_with fail
  generalize hW : w.alloc (.cells #[.string k.name.1, .int .i64 k.n.1] 31) = W
  obtain ⟨hbw, hsz, x0, x1⟩ := box2 w _ _ _ hW
  obtain ⟨b, h, D, C⟩ := H0.out.frame (Below.toSame hbw)
  have HBW := Lib.hid hbw
  have hc2 := C.by'
  have hkey := keyK k
  have hown := C.own
  have HC := Lib.hid C
  clear hW hbw H0
  have hlt : w.heap.size < W.heap.size := by omega
  clear hown
  by_cases hk : k ∈ E.map Ent.key
  · obtain ⟨p, e, q, hE, he⟩ := key_split hk
    have hhas : Maps.has D (kdK.lit k) = true := by rw [C.has]; simp [hk]
    have hat : ∀ z, D.atKey (kdK.lit k) z = .lit (.int .i64 e.blk) := by rw [← he]; exact C.at' e (by rw [hE]; simp)
    have HE := Lib.hid hE
    have Hk := Lib.hid hk
    have He := Lib.hid he
    have hlk := fun m => look_hit_run (w := W.drewN m) 195 31 194 (keyedK) Try.underlying195 (Try.zeroValue194 _) b _ D (Core.drewN HC.out).own _ _ hkey e.blk hat hhas
    clear hE hk he C hat hhas
    go_quiet (fail)
    clear hlk
    have C := Core.drewN (n := nq) HC.out
    have hTV := (Turn.refl (fun x => S x ∧ x < w.heap.size) W).drewN (n := nq)
    replace x0 := show (W.drewN nq).cell? _ = _ from x0
    replace x1 := show (W.drewN nq).cell? _ = _ from x1
    replace hlt : w.heap.size < (W.drewN nq).heap.size := hlt
    replace hc2 := C.by'
    clear HC
    generalize W.drewN nq = V at C hTV x0 x1 hc2 hlt ⊢
    have HTV := Lib.hid hTV
    have HC := Lib.hid C
    obtain ⟨l, n, r1, r2, n1, n2, l1, l2, hring⟩ := C.around HE.out
    have HR := Lib.hid hring
    have hl := C.live l r1
    have hn := C.live n r2
    clear C hTV hring
    go_wp2_with fail
    refine (cutKL_any _ _ _ _ _ l2.1 l1.2 l2.2 l1.1 hn hl).mono ?_
    rintro ex w1 ⟨rfl, hw1⟩
    have T : Brushed (inRing h E) V w1 := by rw [hw1]; exact (tie_touch r1 r2).drew
    have hring1 : Seg w1 h ((p ++ q).map Ent.blk) h := by rw [hw1]; exact HR.out.drew
    have hc3 : w1.cell? ⟨c, 2, none⟩ = some (.map (some b)) := (T.other HC.out.notC 2).trans hc2
    have hown1 := HC.out.ownTouched T
    have y0 : w1.cell? ⟨w.heap.size, 0, none⟩ = some (.string k.name.1) := (T.other (fun h => by have := (HC.out.ring_sub _ h).2; omega) 0).trans x0
    have y1 : w1.cell? ⟨w.heap.size, 1, none⟩ = some (.int .i64 k.n.1) := (T.other (fun h => by have := (HC.out.ring_sub _ h).2; omega) 1).trans x1
    have HT := Lib.hid T
    have HR1 := Lib.hid hring1
    clear hw1 T hring1 hc2 x0 x1 hl hn l1 l2
    go_wp2_with fail
    refine wp_region_still_tail 5 (by kernel_rfl) (by kernel_rfl) ?_
    simp only [List.take_succ_cons, List.take_zero, List.drop_succ_cons, List.drop_zero]
    repeat still_step
    try refine wpStill_nil ?_
    change wpList _ _ _ _ _ w1.drew
    go_wp2_with (at_delete; refine wpList_delete_own _ rfl _ _ 195 31 rfl 194 (keyedK) Try.underlying195 _ b _ D rfl hown1.drew _ _ rfl hkey ?_; intro w2 hown2 hturn2)
    go_wp2_with fail
    go_ret
    have hdrop := HC.out.drop (w2 := w2) okK HE.out HT.out.drew HR1.out.drew (by rw [He.out]; exact hown2) hturn2 (keyedK)
    have hrm : rmE k E = p ++ q := by have hn := HC.out.keys; rw [HE.out] at hn ⊢; exact rmE_mid He.out hn
    rw [hrm]
    exact ⟨by simp [Hk.out], ⟨b, h, _, hdrop.1.wider (fun x hx => hx.1)⟩, ((Turn.of_below HBW.out).trans ((HTV.out.trans (hdrop.2.mono (fun x hx => .inl hx))).mono (fun x hx => .inl hx.1)))⟩
  · have hhas : Maps.has D (kdK.lit k) = false := by rw [C.has]; simp [hk]
    have Hk := Lib.hid hk
    have hlk := fun m => look_miss_run (w := W.drewN m) 195 31 194 (keyedK) Try.underlying195 (Try.zeroValue194 _) b _ D (Core.drewN HC.out).own _ _ hkey hhas
    clear hk C hhas
    go_quiet (fail)
    clear hlk
    go_wp2_with fail
    go_ret
    rw [rmE_none Hk.out]
    exact ⟨by simp [Hk.out], (show CacheAt _ _ _ _ _ _ _ _ _ from ⟨b, h, D, Core.drewN HC.out⟩).wider (fun x hx => hx.1), (Turn.of_below HBW.out).drewN⟩

end Go.Proofs.Yteboancapfgdeaa.KL
