/- Proved here: Put of a cache. -/
import Derived.Test.YteboancapfgdeaaCcKLGet
import Derived.BigRegion
namespace Go.Proofs.Yteboancapfgdeaa.KL
open Go.RowKit Go.Proofs.Cc
attribute [local go_sem ↓] Go.wp_at_zero Go.wp_at_succ

set_option maxRecDepth 100000 in
set_option maxHeartbeats 1000000 in
theorem putKL_any {w : World} {c : Nat} {S : Nat → Prop} {most : Nat} {E : List (Ent KeyV SlV)} (HC0 : CacheAt Try.prog 31 kdK kdL w c S most E) (k : KeyV) (v : SlV) (hlen : E.length ≤ 1048576) (_hmost : most ≤ 1048576) :
    Calls Try.prog 38 #[.pointer (some ⟨c, 0, none⟩), .agg #[.string k.name.1, .int .i64 k.n.1], .slice (some ⟨v.blk, 0, none⟩) 2 2] w fun ex w' =>
      ex = .returned (.tuple #[]) ∧ ∃ E2, CacheAt Try.prog 31 kdK kdL w' c (Grow S w) most E2 ∧ E2.map kv = putD most k v (E.map kv) ∧ Turn S w w' := by
  have H0 := Lib.hid (CacheAt.tight0 HC0)
  have hkey := keyK k
  have HK := Lib.hid hkey
  clear hkey HC0
  go_enter Try.func38, Try.ntmps38
  go_wp2_with fail
  generalize hW : w.alloc (.cells #[.string k.name.1, .int .i64 k.n.1] 31) = W
  obtain ⟨hbw, hsz, x0, x1⟩ := box2 w _ _ _ hW
  have HBW := Lib.hid hbw
  have HCW := Lib.hid (H0.out.frame (Below.toSame hbw))
  have hlt : w.heap.size < W.heap.size := by omega
  clear hW hbw H0
  go_wp2_with fail
  refine (dropKL_any HCW.out k).mono ?_
  rintro ex w1 ⟨rfl, HC1, hT1⟩
  have hlen1 : (rmE k E).length ≤ 1048576 := Nat.le_trans (List.length_filter_le _ _) hlen
  have hnk := not_mem_rmE k E
  have hmap := map_rmE k E
  generalize hE1 : rmE k E = E1 at *
  clear hE1
  have hsame : Same (fun x => x = w.heap.size) W w1 := hT1.same (fun x hx h => by have := h.2; omega)
  have y0 := hsame.cell rfl x0
  have y1 := hsame.cell rfl x1
  have hltc : w.heap.size < w1.heap.size := by have := hT1.size; omega
  obtain ⟨b, h, D, C⟩ := HC1
  have HT1 := Lib.hid hT1
  have HM := Lib.hid hmap
  have HN := Lib.hid hnk
  have HH := Lib.hid C.drew
  have hc2 := C.by'
  have hkey := HK.out
  have hml : E1.length < maxLen := by unfold maxLen; omega
  have hcl := C.liveC.lt
  clear C hT1 hmap hnk hlen1 hlen hsame x0 x1 HCW
  go_wp2_with fail
  obtain ⟨W2, hW2⟩ : ∃ W2, w1.alloc (.cells #[.pointer none, .pointer none, .string k.name.1, .int .i64 k.n.1, .slice (some ⟨v.blk, 0, none⟩) 2 2] 203) = W2 := ⟨_, rfl⟩
  have hb2 : Below w1.heap.size w1 W2 := by rw [← hW2]; exact (Below.refl _ _).alloc (Nat.le_refl _) _
  rw [hW2]
  have z0 := (hb2.cell (World.block_lt_of_cell? w1 _ y0)).trans y0
  have z1 := (hb2.cell (World.block_lt_of_cell? w1 _ y1)).trans y1
  have z2 := (hb2.cell (World.block_lt_of_cell? w1 _ hc2)).trans hc2
  have HW2 := Lib.hid hW2
  clear hW2 hb2
  refine wp_region_still_tail 6 (by kernel_rfl) (by kernel_rfl) ?_
  simp only [List.take_succ_cons, List.take_zero, List.drop_succ_cons, List.drop_zero]
  repeat still_step
  try refine wpStill_nil ?_
  change wpList _ _ _ _ _ W2.drew
  rw [← HW2.out]
  change wpList _ _ _ _ _ (World.alloc w1.drew _)
  clear z0 z1 z2 HW2
  have hw1d : w1.heap.size = w1.drew.heap.size := rfl
  rw [hw1d]
  have hTd : Turn (fun x => S x ∧ x < w.heap.size) W w1.drew := HT1.out.drew
  have HTD := Lib.hid hTd
  rw [hw1d] at hcl hltc
  replace hc2 : w1.drew.cell? ⟨c, 2, none⟩ = _ := hc2
  clear HT1 hTd hw1d y0 y1
  generalize w1.drew = w1 at *
  have hown := HH.out.own
  go_wp2_with (at_mapUpdate; refine wpList_mapUpdate_in _ rfl _ _ _ 195 rfl 31 194 (keyedK) Try.underlying195 ptrR b _ D rfl (hown.alloc _) hml _ _ (kdK.lit k) rfl rfl hkey (.lit (.int .i64 w1.heap.size)) [] rfl ?_; intro w3 hown3 hturn3)
  obtain ⟨f, rf, hfl, lf, h1', n0, n1, lv1, lv2, lv3, hcl', hhl, hhc, hT3, hsz3, hold3, hnew3, hring3⟩ := HH.out.fresh (k := k) (v := v) rfl hturn3
  have HB := Lib.hid (show f = h ∨ inRing h E1 f from rf)
  have HO := Lib.hid hown3
  have HL := Lib.hid hold3
  have HW := Lib.hid hnew3
  have HR := Lib.hid hring3
  have HT3 := Lib.hid hT3
  have d1 : w1.heap.size ≠ c := by omega
  have d2 : w1.heap.size ≠ h := by omega
  have d3 : f ≠ w1.heap.size := by omega
  clear hown3 hold3 hnew3 hring3 hT3 hturn3 hc2 hown rf hsz3
  go_wp2_with fail
  refine (layKL_any c h f w1.heap.size w3 h1' lf.1 lf.2 n0 n1 lv1 lv2 lv3 d1 d2 d3).mono ?_
  rintro ex w4 ⟨rfl, hw4⟩
  have C4 := HH.out.put (v := v) okK (keyedK) HN.out HO.out HL.out HW.out HB.out HR.out HT3.out hw4
  have HP := Lib.hid C4.1
  have HT4 := Lib.hid C4.2
  have hc2 := C4.1.by'
  have hc0 := C4.1.most
  have hc1 := C4.1.head
  have hl := C4.1.own.drew.len Try.underlying195 3
  rw [C4.1.size] at hl
  obtain ⟨p, e, hpe, hlast⟩ := C4.1.last (by simp)
  have hkl : w4.cell? ⟨e.blk, 2, none⟩ = some (.string e.key.name.1) := C4.1.ents e (by rw [hpe]; simp) 0 _ rfl
  have hkl2 : w4.cell? ⟨e.blk, 3, none⟩ = some (.int .i64 e.key.n.1) := C4.1.ents e (by rw [hpe]; simp) 1 _ rfl
  have HPE := Lib.hid hpe
  have HC4 : CacheAt Try.prog 31 kdK kdL w4 c (Grow (fun x => S x ∧ x < w.heap.size) w1) most (⟨w1.heap.size, k, v⟩ :: E1) := ⟨b, h, _, C4.1⟩
  have HCC := Lib.hid HC4
  have hL : (⟨w1.heap.size, k, v⟩ :: E1 : List (Ent KeyV SlV)).length = E1.length + 1 := rfl
  rw [hL] at hl
  clear C4 hw4 hpe HC4 hL lf n0 n1 lv1 lv2 lv3 h1' d1 d2 d3
  by_cases hover : most < E1.length + 1
  · have hdec : decide ((most : Int) < (E1.length : Int) + 1) = true := by simp; omega
    have HV := Lib.hid hover
    clear hover
    go_wp2_with fail
    go_region
    go_wp2_with fail
    refine (dropKL_any (HCC.out.frame (w' := w4.drew) (fun _ _ _ => rfl)) e.key).mono ?_
    rintro ex w5 ⟨rfl, HC5, hT5⟩
    go_wp2_with fail
    go_end0
    have hkeys := HP.out.keys
    rw [HPE.out] at hkeys HC5
    have hr := rmE_mid (q := []) (k := e.key) (p := p) (e := e) rfl hkeys
    rw [List.append_nil] at hr
    rw [hr] at HC5
    refine ⟨rfl, p, HC5.wider (fun x hx => hx.elim (fun y => .inl y.1) (fun y => .inr (by have := HBW.out.size; have := HTD.out.size; omega))), ?_, (Turn.of_below HBW.out).trans ((HTD.out.trans ((HT4.out.mono (fun x hx => .inl hx)).trans' (hT5.of_drew) (fun x hx => hx.elim (fun y => .inl (.inl y)) (fun y => .inr y)))).mono (fun x hx => .inl hx.1))⟩
    have hm := congrArg (List.map kv) HPE.out
    rw [List.map_append, List.map_cons, HM.out] at hm
    have hl2 := congrArg List.length HM.out
    rw [List.length_map] at hl2
    have hov := HV.out
    unfold putD
    rw [if_pos (by rw [List.length_cons, ← hl2]; exact hov)]
    change (k, v) :: rmD k (E.map kv) = _ at hm
    rw [hm]
    simp
  · have hdec : decide ((most : Int) < (E1.length : Int) + 1) = false := by simp; omega
    have HV := Lib.hid hover
    clear hover
    go_wp2_with fail
    go_region
    go_wp2_with fail
    go_end0
    refine ⟨rfl, _, (HCC.out.frame (w' := w4.drew) (fun _ _ _ => rfl)).wider (fun x hx => hx.elim (fun y => .inl y.1) (fun y => .inr (by have := HBW.out.size; have := HTD.out.size; omega))), ?_, ((Turn.of_below HBW.out).trans ((HTD.out.trans (HT4.out.mono (fun x hx => .inl hx))).mono (fun x hx => .inl hx.1))).drew⟩
    have hl2 := congrArg List.length HM.out
    rw [List.length_map] at hl2
    have hov := HV.out
    unfold putD
    rw [if_neg (by rw [List.length_cons, ← hl2]; exact hov), List.map_cons, HM.out]
    rfl

end Go.Proofs.Yteboancapfgdeaa.KL
