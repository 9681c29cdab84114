/- Proved here: Put of a cache. -/
import Derived.Test.YteboancapfgdeaaCcSIGet
import Derived.BigRegion
namespace Go.Proofs.Yteboancapfgdeaa.SI
open Go.RowKit Go.Proofs.Cc
attribute [local go_sem ↓] Go.wp_at_zero Go.wp_at_succ

theorem putSI_any {w : World} {c : Nat} {S : Nat → Prop} {most : Nat} {E : List (Ent Str I64)} (HC : CacheAt Try.prog 9 kdS kdI w c S most E) (k : Str) (v : I64) (hlen : E.length ≤ 1048576) (_hmost : most ≤ 1048576) :
    Calls Try.prog 49 #[.pointer (some ⟨c, 0, none⟩), .string k.1, .int .i64 v.1] w fun ex w' =>
      ex = .returned (.tuple #[]) ∧ ∃ E2, CacheAt Try.prog 9 kdS kdI w' c (Grow S w) most E2 ∧ E2.map kv = putD most k v (E.map kv) ∧ Turn S w w' := by
  have hkey := keyS Try.underlying9 k
  have HK := Lib.hid hkey
  clear hkey
  go_enter Try.func49, Try.ntmps49
  go_wp2_with fail
  refine (dropSI_any HC k).mono ?_
  rintro ex w1 ⟨rfl, HC1, hT1⟩
  have hlen1 : (rmE k E).length ≤ 1048576 := Nat.le_trans (List.length_filter_le _ _) hlen
  have hnk := not_mem_rmE k E
  have hmap := map_rmE k E
  generalize hE1 : rmE k E = E1 at *
  clear hE1
  obtain ⟨b, h, D, C⟩ := HC1
  have HH := Lib.hid C
  have HT1 := Lib.hid hT1
  have HM := Lib.hid hmap
  have HN := Lib.hid hnk
  have hc2 := C.by'
  have hown := C.own
  have hkey := HK.out
  have hml : E1.length < maxLen := by unfold maxLen; omega
  have hcl := C.liveC.lt
  clear C hT1 hmap hnk HC hlen1 hlen
  go_wp2_with (at_mapUpdate; refine wpList_mapUpdate_in _ rfl _ _ _ 211 rfl 9 210 (Maps.string_keyed Try.underlying9) Try.underlying211 ptrR b _ D rfl (hown.alloc _) hml _ _ (kdS.lit k) rfl rfl hkey (.lit (.int .i64 w1.heap.size)) [] rfl ?_; intro w3 hown3 hturn3)
  obtain ⟨f, rf, hfl, lf, h1', n0, n1, lv1, lv2, lv3, hcl', hhl, hhc, hT3, hsz3, hold3, hnew3, hring3⟩ := HH.out.fresh (k := k) (v := v) rfl hturn3
  have HB := Lib.hid (show f = h ∨ inRing h E1 f from rf)
  have HO := Lib.hid hown3
  have HL := Lib.hid hold3
  have HW := Lib.hid hnew3
  have HR := Lib.hid hring3
  have HT3 := Lib.hid hT3
  have d1 : w1.heap.size ≠ c := by omega
  have d2 : w1.heap.size ≠ h := by omega
  have d3 : f ≠ w1.heap.size := by omega
  clear hown3 hold3 hnew3 hring3 hT3 hturn3 hc2 hown rf hsz3
  go_wp2_with fail
  refine (laySI_any c h f w1.heap.size w3 h1' lf.1 lf.2 n0 n1 lv1 lv2 lv3 d1 d2 d3).mono ?_
  rintro ex w4 ⟨rfl, hw4⟩
  have C4 := HH.out.put (v := v) okS (Maps.string_keyed Try.underlying9) HN.out HO.out HL.out HW.out HB.out HR.out HT3.out hw4
  have HP := Lib.hid C4.1
  have HT4 := Lib.hid C4.2
  have hc2 := C4.1.by'
  have hc0 := C4.1.most
  have hc1 := C4.1.head
  have hl := C4.1.own.drew.len Try.underlying211 3
  rw [C4.1.size] at hl
  obtain ⟨p, e, hpe, hlast⟩ := C4.1.last (by simp)
  have hkl : w4.cell? ⟨e.blk, 2, none⟩ = some (.string e.key.1) := C4.1.ents e (by rw [hpe]; simp) 0 _ rfl
  have HPE := Lib.hid hpe
  have HC4 : CacheAt Try.prog 9 kdS kdI w4 c (Grow S w1) most (⟨w1.heap.size, k, v⟩ :: E1) := ⟨b, h, _, C4.1⟩
  have HCC := Lib.hid HC4
  have hL : (⟨w1.heap.size, k, v⟩ :: E1 : List (Ent Str I64)).length = E1.length + 1 := rfl
  rw [hL] at hl
  clear C4 hw4 hpe HC4 hL lf n0 n1 lv1 lv2 lv3 h1' d1 d2 d3
  by_cases hover : most < E1.length + 1
  · have hdec : decide ((most : Int) < (E1.length : Int) + 1) = true := by simp; omega
    have HV := Lib.hid hover
    clear hover
    go_wp2_with fail
    go_region
    go_wp2_with fail
    refine (dropSI_any (HCC.out.frame (w' := w4.drew) (fun _ _ _ => rfl)) e.key).mono ?_
    rintro ex w5 ⟨rfl, HC5, hT5⟩
    go_wp2_with fail
    go_end0
    have hkeys := HP.out.keys
    rw [HPE.out] at hkeys HC5
    have hr := rmE_mid (q := []) (k := e.key) (p := p) (e := e) rfl hkeys
    rw [List.append_nil] at hr
    rw [hr] at HC5
    refine ⟨rfl, p, HC5.wider (fun x hx => hx.elim .inl (fun y => .inr (Nat.le_trans HT1.out.size y))), ?_, HT1.out.trans ((HT4.out.mono (fun x hx => .inl hx)).trans' (hT5.of_drew) (fun x hx => hx.elim (fun y => .inl (.inl y)) (fun y => .inr y)))⟩
    have hm := congrArg (List.map kv) HPE.out
    rw [List.map_append, List.map_cons, HM.out] at hm
    have hl2 := congrArg List.length HM.out
    rw [List.length_map] at hl2
    have hov := HV.out
    unfold putD
    rw [if_pos (by rw [List.length_cons, ← hl2]; exact hov)]
    change (k, v) :: rmD k (E.map kv) = _ at hm
    rw [hm]
    simp
  · have hdec : decide ((most : Int) < (E1.length : Int) + 1) = false := by simp; omega
    have HV := Lib.hid hover
    clear hover
    go_wp2_with fail
    go_region
    go_wp2_with fail
    go_end0
    refine ⟨rfl, _, (HCC.out.frame (w' := w4.drew) (fun _ _ _ => rfl)).wider (fun x hx => hx.elim .inl (fun y => .inr (Nat.le_trans HT1.out.size y))), ?_, (HT1.out.trans (HT4.out.mono (fun x hx => .inl hx))).drew⟩
    have hl2 := congrArg List.length HM.out
    rw [List.length_map] at hl2
    have hov := HV.out
    unfold putD
    rw [if_neg (by rw [List.length_cons, ← hl2]; exact hov), List.map_cons, HM.out]
    rfl

end Go.Proofs.Yteboancapfgdeaa.SI
