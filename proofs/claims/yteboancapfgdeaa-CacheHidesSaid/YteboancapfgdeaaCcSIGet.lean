/- Proved here: Get and Len of a cache. -/
import Derived.Test.YteboancapfgdeaaCcSIDrop
namespace Go.Proofs.Yteboancapfgdeaa.SI
open Go.RowKit Go.Proofs.Cc

theorem getSI_any {w : World} {c : Nat} {S : Nat → Prop} {most : Nat} {E : List (Ent Str I64)} (HC : CacheAt Try.prog 9 kdS kdI w c S most E) (k : Str) :
    Calls Try.prog 47 #[.pointer (some ⟨c, 0, none⟩), .string k.1] w fun ex w' =>
      (k ∉ E.map Ent.key ∧ ex = .returned (.tuple #[.int .i64 0, .bool false]) ∧ w' = w) ∨
      (∃ p e q, E = p ++ e :: q ∧ e.key = k ∧ ex = .returned (.tuple #[.int .i64 e.val.1, .bool true]) ∧ CacheAt Try.prog 9 kdS kdI w' c S most (e :: (p ++ q)) ∧ Turn S w w') := by
  obtain ⟨b, h, D, C⟩ := HC
  have hc2 := C.by'
  have hc1 := C.head
  have hown := C.own
  have hkey := keyS Try.underlying9 k
  have HC := Lib.hid C
  by_cases hk : k ∈ E.map Ent.key
  · obtain ⟨p, e, q, hE, he⟩ := key_split hk
    have hhas : Maps.has D (kdS.lit k) = true := by rw [C.has]; simp [hk]
    have hat : ∀ z, D.atKey (kdS.lit k) z = .lit (.int .i64 e.blk) := by rw [← he]; exact C.at' e (by rw [hE]; simp)
    obtain ⟨l, n, r1, r2, n1, n2, l1, l2, hring⟩ := C.around hE
    have HR := Lib.hid hring
    have HE := Lib.hid hE
    have Hk := Lib.hid hk
    have He := Lib.hid he
    have hl := C.live l r1
    have hn := C.live n r2
    clear hring hE hk he C
    go_enter Try.func47, Try.ntmps47
    go_wp2_with (at_lookup; refine lookup_hit rfl _ _ 211 rfl 9 210 (Maps.string_keyed Try.underlying9) Try.underlying211 (Try.zeroValue210 _) b _ D rfl hown _ _ rfl hkey e.blk hat hhas ?_)
    go_wp2_with fail
    refine (cutSI_any _ _ _ _ _ l2.1 l1.2 l2.2 l1.1 hn hl).mono ?_
    rintro ex w1 ⟨rfl, hw1⟩
    have T : Brushed (inRing h E) w w1 := by rw [hw1]; exact (tie_touch r1 r2).drew
    have hring1 : Seg w1 h ((p ++ q).map Ent.blk) h := by rw [hw1]; exact HR.out.drew
    have e0 : w1.cell? ⟨e.blk, 0, none⟩ = some (.pointer (some ⟨n, 0, none⟩)) := by
      rw [hw1]; exact (tie_other (w := w) ⟨.inl (Ne.symm n1), .inl (Ne.symm n2)⟩).trans l2.1
    have e1 : w1.cell? ⟨e.blk, 1, none⟩ = some (.pointer (some ⟨l, 0, none⟩)) := by
      rw [hw1]; exact (tie_other (w := w) ⟨.inl (Ne.symm n1), .inl (Ne.symm n2)⟩).trans l1.2
    obtain ⟨f, rf, fe, ec, eh, re, lf, hring2⟩ := HC.out.laid HE.out hring1 e0 e1
    have h1' : w1.cell? ⟨c, 1, none⟩ = some (.pointer (some ⟨h, 0, none⟩)) := (T.other HC.out.notC 1).trans hc1
    have rh : inRing h E h := by unfold inRing; simp
    have lv1 := T.live h (HC.out.live h rh)
    have lv2 := T.live f (HC.out.live f rf)
    have lv3 := T.live e.blk (HC.out.live e.blk re)
    have HT := Lib.hid T
    have HR1 := Lib.hid hring2
    clear hw1 T hring1 hring2 hc2 hown hc1
    go_wp2_with fail
    refine (laySI_any c h f e.blk w1 h1' lf.1 lf.2 e0 e1 lv1 lv2 lv3 ec eh fe).mono ?_
    rintro ex w2 ⟨rfl, hw2⟩
    have T2 : Brushed (inRing h E) w w2 := by rw [hw2]; exact (HT.out.trans (lays_touch rh rf re)).drew.drew
    have hring3 : Seg w2 h ((e :: (p ++ q)).map Ent.blk) h := by rw [hw2]; exact HR1.out.drew.drew
    have C2 := HC.out.get HE.out T2 hring3
    have hv : w2.cell? ⟨e.blk, 3, none⟩ = some (.int .i64 e.val.1) := C2.ents e (by simp) 1 _ rfl
    have HC2 := Lib.hid C2
    have HT2 := Lib.hid (T2.turn HC.out.ring_sub)
    clear hw2 T2 hring3 C2 e0 e1 lv1 lv2 lv3 h1' lf
    go_wp2_with fail
    refine bodyPost_ret (results_tmp2 rfl _ _ _) rfl ?_
    exact .inr ⟨p, e, q, HE.out, He.out, rfl, ⟨b, h, D, HC2.out⟩, HT2.out⟩
  · have hhas : Maps.has D (kdS.lit k) = false := by rw [C.has]; simp [hk]
    have Hk := Lib.hid hk
    clear hk C
    go_enter Try.func47, Try.ntmps47
    go_wp2_with (at_lookup; refine lookup_miss rfl _ _ 211 rfl 9 210 (Maps.string_keyed Try.underlying9) Try.underlying211 (Try.zeroValue210 _) b _ D rfl hown _ _ rfl hkey hhas ?_)
    go_wp2_with fail
    refine bodyPost_ret (results_tmp2 rfl _ _ _) rfl ?_
    exact .inl ⟨Hk.out, rfl, rfl⟩

theorem lenSI_any {w : World} {c : Nat} {S : Nat → Prop} {most : Nat} {E : List (Ent Str I64)} (HC : CacheAt Try.prog 9 kdS kdI w c S most E) :
    Calls Try.prog 55 #[.pointer (some ⟨c, 0, none⟩)] w fun ex w' => ex = .returned (.int .i64 E.length) ∧ w' = w := by
  obtain ⟨b, h, D, C⟩ := HC
  have hc2 := C.by'
  have hown := C.own
  have HZ := Lib.hid C.size
  clear C
  go_enter Try.func55, Try.ntmps55
  go_wp2_with (at_len; refine wpList_len_own _ rfl _ 211 rfl 9 210 Try.underlying211 _ b _ D rfl hown ?_)
  go_wp2_with fail
  go_ret
  rw [HZ.out]
  exact ⟨rfl, rfl⟩

theorem clearSI_any {w : World} {c : Nat} {S : Nat → Prop} {most : Nat} {E : List (Ent Str I64)} (HC : CacheAt Try.prog 9 kdS kdI w c S most E) :
    Calls Try.prog 53 #[.pointer (some ⟨c, 0, none⟩)] w fun ex w' => ex = .returned (.int .i64 E.length) ∧ CacheAt Try.prog 9 kdS kdI w' c (Grow S w) most [] ∧ Turn S w w' := by
  obtain ⟨b, h, D, C⟩ := HC
  have hc2 := C.by'
  have hown := C.own
  have HC := Lib.hid C
  have HZ := Lib.hid C.size
  clear C
  go_enter Try.func53, Try.ntmps53
  go_wp2_with (at_len; refine wpList_len_own _ rfl _ 211 rfl 9 210 Try.underlying211 _ b _ D rfl hown ?_)
  go_wp2_with fail
  refine (emptySI_any c _ HC.out.head hc2 HC.out.liveC).mono ?_
  rintro ex w1 ⟨rfl, hw1⟩
  have HE := HC.out.emptied hw1
  clear hc2 hown hw1
  go_wp2_with fail
  go_ret
  rw [HZ.out]
  exact ⟨rfl, HE.1, HE.2⟩

end Go.Proofs.Yteboancapfgdeaa.SI
