/- Proved here: Get and Len of a cache. -/
import Derived.Test.YteboancapfgdeaaCcKLDrop
namespace Go.Proofs.Yteboancapfgdeaa.KL
open Go.RowKit Go.Proofs.Cc

set_option maxRecDepth 100000 in
set_option maxHeartbeats 1000000 in
theorem getKL_any {w : World} {c : Nat} {S : Nat → Prop} {most : Nat} {E : List (Ent KeyV SlV)} (HC0 : CacheAt Try.prog 31 kdK kdL w c S most E) (k : KeyV) :
    Calls Try.prog 37 #[.pointer (some ⟨c, 0, none⟩), .agg #[.string k.name.1, .int .i64 k.n.1]] w fun ex w' =>
      (k ∉ E.map Ent.key ∧ ex = .returned (.tuple #[.slice none 0 0, .bool false]) ∧ Below w.heap.size w w') ∨
      (∃ p e q, E = p ++ e :: q ∧ e.key = k ∧ ex = .returned (.tuple #[.slice (some ⟨e.val.blk, 0, none⟩) 2 2, .bool true]) ∧ CacheAt Try.prog 31 kdK kdL w' c S most (e :: (p ++ q)) ∧ Turn S w w') := by
  have H0 := Lib.hid (CacheAt.tight0 HC0)
  clear HC0
  go_enter Try.func37, Try.ntmps37
  go_wp2_with fail
  generalize hW : w.alloc (.cells #[.string k.name.1, .int .i64 k.n.1] 31) = W
  obtain ⟨hbw, hsz, x0, x1⟩ := box2 w _ _ _ hW
  obtain ⟨b, h, D, C⟩ := H0.out.frame (Below.toSame hbw)
  have HBW := Lib.hid hbw
  have hc2 := C.by'
  have hkey := keyK k
  have HC := Lib.hid C
  clear hW hbw H0
  by_cases hk : k ∈ E.map Ent.key
  · obtain ⟨p, e, q, hE, he⟩ := key_split hk
    have hhas : Maps.has D (kdK.lit k) = true := by rw [C.has]; simp [hk]
    have hat : ∀ z, D.atKey (kdK.lit k) z = .lit (.int .i64 e.blk) := by rw [← he]; exact C.at' e (by rw [hE]; simp)
    have HE := Lib.hid hE
    have He := Lib.hid he
    have hlk := fun m => look_hit_run (w := W.drewN m) 195 31 194 (keyedK) Try.underlying195 (Try.zeroValue194 _) b _ D (Core.drewN HC.out).own _ _ hkey e.blk hat hhas
    clear hE hk he C hat hhas
    go_quiet (fail)
    clear hlk x0 x1 hc2
    have C := Core.drewN (n := nq) HC.out
    have hTV := (Turn.refl (fun x => S x ∧ x < w.heap.size) W).drewN (n := nq)
    clear HC
    generalize W.drewN nq = V at C hTV ⊢
    have HTV := Lib.hid hTV
    have HC := Lib.hid C
    have hc1 := C.head
    obtain ⟨l, n, r1, r2, n1, n2, l1, l2, hring⟩ := C.around HE.out
    have HR := Lib.hid hring
    have hl := C.live l r1
    have hn := C.live n r2
    clear C hTV hring
    go_wp2_with fail
    refine (cutKL_any _ _ _ _ _ l2.1 l1.2 l2.2 l1.1 hn hl).mono ?_
    rintro ex w1 ⟨rfl, hw1⟩
    have T : Brushed (inRing h E) V w1 := by rw [hw1]; exact (tie_touch r1 r2).drew
    have hring1 : Seg w1 h ((p ++ q).map Ent.blk) h := by rw [hw1]; exact HR.out.drew
    have e0 : w1.cell? ⟨e.blk, 0, none⟩ = some (.pointer (some ⟨n, 0, none⟩)) := by
      rw [hw1]; exact (tie_other (w := V) ⟨.inl (Ne.symm n1), .inl (Ne.symm n2)⟩).trans l2.1
    have e1 : w1.cell? ⟨e.blk, 1, none⟩ = some (.pointer (some ⟨l, 0, none⟩)) := by
      rw [hw1]; exact (tie_other (w := V) ⟨.inl (Ne.symm n1), .inl (Ne.symm n2)⟩).trans l1.2
    obtain ⟨f, rf, fe, ec, eh, re, lf, hring2⟩ := HC.out.laid HE.out hring1 e0 e1
    have h1' : w1.cell? ⟨c, 1, none⟩ = some (.pointer (some ⟨h, 0, none⟩)) := (T.other HC.out.notC 1).trans hc1
    have rh : inRing h E h := by unfold inRing; simp
    have lv1 := T.live h (HC.out.live h rh)
    have lv2 := T.live f (HC.out.live f rf)
    have lv3 := T.live e.blk (HC.out.live e.blk re)
    have HT := Lib.hid T
    have HR1 := Lib.hid hring2
    clear hw1 T hring1 hring2 hc1 hl hn l1 l2
    go_wp2_with fail
    refine (layKL_any c h f e.blk w1 h1' lf.1 lf.2 e0 e1 lv1 lv2 lv3 ec eh fe).mono ?_
    rintro ex w2 ⟨rfl, hw2⟩
    have T2 : Brushed (inRing h E) V w2 := by rw [hw2]; exact (HT.out.trans (lays_touch rh rf re)).drew.drew
    have hring3 : Seg w2 h ((e :: (p ++ q)).map Ent.blk) h := by rw [hw2]; exact HR1.out.drew.drew
    have C2 := HC.out.get HE.out T2 hring3
    have hv : w2.cell? ⟨e.blk, 4, none⟩ = some (.slice (some ⟨e.val.blk, 0, none⟩) 2 2) := C2.ents e (by simp) 2 _ rfl
    have HC2 := Lib.hid C2
    have HT2 := Lib.hid (T2.turn HC.out.ring_sub)
    clear hw2 T2 hring3 C2 e0 e1 lv1 lv2 lv3 h1' lf
    go_wp2_with fail
    refine bodyPost_ret (results_tmp2 rfl _ _ _) rfl ?_
    exact .inr ⟨p, e, q, HE.out, He.out, rfl, (show CacheAt _ _ _ _ _ _ _ _ _ from ⟨b, h, D, HC2.out⟩).wider (fun x hx => hx.1), (Turn.of_below HBW.out).trans ((HTV.out.trans (HT2.out.mono (fun x hx => .inl hx))).mono (fun x hx => .inl hx.1))⟩
  · have hhas : Maps.has D (kdK.lit k) = false := by rw [C.has]; simp [hk]
    have Hk := Lib.hid hk
    have hlk := fun m => look_miss_run (w := W.drewN m) 195 31 194 (keyedK) Try.underlying195 (Try.zeroValue194 _) b _ D (Core.drewN HC.out).own _ _ hkey hhas
    clear hk C hhas
    go_quiet (fail)
    clear hlk
    go_wp2_with fail
    refine bodyPost_ret (results_tmp2 rfl _ _ _) rfl ?_
    exact .inl ⟨Hk.out, rfl, below_drewN HBW.out⟩

theorem clearKL_any {w : World} {c : Nat} {S : Nat → Prop} {most : Nat} {E : List (Ent KeyV SlV)} (HC : CacheAt Try.prog 31 kdK kdL w c S most E) :
    Calls Try.prog 36 #[.pointer (some ⟨c, 0, none⟩)] w fun ex w' => ex = .returned (.int .i64 E.length) ∧ CacheAt Try.prog 31 kdK kdL w' c (Grow S w) most [] ∧ Turn S w w' := by
  obtain ⟨b, h, D, C⟩ := HC
  have hc2 := C.by'
  have hown := C.own
  have HC := Lib.hid C
  have HZ := Lib.hid C.size
  clear C
  go_enter Try.func36, Try.ntmps36
  go_wp2_with (at_len; refine wpList_len_own _ rfl _ 195 rfl 31 194 Try.underlying195 _ b _ D rfl hown ?_)
  go_wp2_with fail
  refine (emptyKL_any c _ HC.out.head hc2 HC.out.liveC).mono ?_
  rintro ex w1 ⟨rfl, hw1⟩
  have HE := HC.out.emptied hw1
  clear hc2 hown hw1
  go_wp2_with fail
  go_ret
  rw [HZ.out]
  exact ⟨rfl, HE.1, HE.2⟩

end Go.Proofs.Yteboancapfgdeaa.KL
