/- Proved here: drop, a message taken away at a path from a node on. -/
import Derived.Test.YtgnffkahlniehaaGreatRtDropP
import Derived.Test.YtgnffkahlniehaaGreatRtCat
import Derived.Test.YtgnffkahlniehaaGreatGsAll
namespace Go.Proofs.YtgnffkahlniehaaGreat
open Go Go.RowKit Go.Proofs.Gs Go.Proofs.Tri Go.Proofs.Rt Go.Proofs.Tp Go.Proofs.Rg

set_option maxHeartbeats 2000000 in
set_option maxRecDepth 100000 in
theorem drop_end {F : Nat → Prop} {w : World} {p : Nat} {t : Tree} (G : Good F w p t) {pv : Value} (hp : StrsAt w pv []) :
    Calls Tryz.prog 32 #[.pointer (some ⟨p, 0, none⟩), pv] w (PutPost F w (drp ltB t [])) := by
  rw [drp_nil]
  obtain ⟨sv, mv, kv, bs, O⟩ := G.node.open
  obtain ⟨a, cap, rfl⟩ := hp.open_nil
  obtain ⟨a1, c1, x1, a2, c2', rfl, rfl, rfl⟩ := open_shapes O
  have c0 := O.c0
  have c2 := O.c2
  have HO := Lib.hid O
  clear O G hp
  go_enter Tryz.func32, Tryz.ntmps32
  go_wp2_with fail
  have z0 := regr_cell c0
  have z2 := regr_cell c2
  refine wp_region_norm_below [0, 1, 2, 4, 5, 6] [3, 7] [] [8, 9, 10] [8, 9, 10] (by kernel_rfl) (by kernel_rfl) (fun _ _ d _ _ h => by cases d <;> exact h) ?_
  simp only [pick, List.filterMap_cons, List.filterMap_nil, List.getElem?_toArray, List.getElem?_cons_zero, List.getElem?_cons_succ]
  repeat (first | (with_reducible refine wpQuiet_nil ?_) | quiet_step (fail))
  intro V hV
  change wpList _ _ _ _ _ V
  have HV := Lib.hid hV
  have HO2 := Lib.hid (HO.out.below hV)
  clear hV z0 z2 c0 c2
  go_wp2_with fail
  go_ret
  have hvs := HV.out.size
  obtain ⟨h1, h2, h3⟩ := node_new (F := fun x => F x ∨ x = V.heap.size) (w := V) (t := Tr.node t.lv none t.kids) (mv := .pointer none) (bs := bs) (ty := 60) rfl (.inr rfl) (RowF.mono HO2.out.hsf (fun _ h => .inl h)) rfl (HO2.out.hkf.mono (fun _ h => .inl h)) HO2.out.hl (fun i b k e1 e2 => NodeAt.mono (fun _ h => .inl h) (HO2.out.hn i b k e1 e2))
  refine ⟨V.heap.size, rfl, NodeAt.mono (fun x h => ?_) h1, HV.out.trans (h2.mono HV.out.size)⟩
  rcases h with h | rfl
  · exact .inl h
  · exact .inr ⟨hvs, by rw [h3]; omega⟩

set_option maxHeartbeats 4000000 in
set_option maxRecDepth 100000 in
theorem drop_kid {F : Nat → Prop} {w : World} {p : Nat} {t : Tree} (G : Good F w p t) (hF : ∀ x, F x → x < w.heap.size) {pv : Value} {x : ByteArray} {xs : List ByteArray} (hp : StrsAt w pv (x :: xs)) (hpl : (x :: xs).length ≤ 1000000001) {k : Tree} (hk : kidAt ltB x t.kids = some k) (hgt : (get (x :: xs) (body t)).isSome = true)
    (ih : ∀ (F' : Nat → Prop) (w' : World) (p' : Nat) (t' : Tree) (pv' : Value) (path' : List ByteArray), path'.length < (x :: xs).length → Good F' w' p' t' → (∀ x, F' x → x < w'.heap.size) → StrsAt w' pv' path' → (get path' (body t')).isSome = true →
      Calls Tryz.prog 32 #[.pointer (some ⟨p', 0, none⟩), pv'] w' (PutPost F' w' (drp ltB t' path'))) :
    Calls Tryz.prog 32 #[.pointer (some ⟨p, 0, none⟩), pv] w (PutPost F w (drp ltB t (x :: xs))) := by
  rw [drp_some hk]
  obtain ⟨sv, mv, kv, bs, O⟩ := G.node.open
  obtain ⟨hkle, hgr, hKlv, hKf, hKl⟩ := drop_kid_facts G.forest G.lim hk hgt
  obtain ⟨kb, cb, off0, cap0, ys, rfl, hql, _, _, hkc, GK, hklv, hkll, hkm⟩ := Good.kid O G.forest G.lim hk
  have hbk : (bs.map ptrV)[place ltB x t.kids]? = some (.pointer (some ⟨kb, 0, none⟩)) := by
    rcases RowAt.cases O.hk with ⟨h8, _⟩ | ⟨_, g', off', cap', e, _, h9, h10, h11⟩
    · omega
    · injection e with e1 e2 e3
      injection e1 with e1
      injection e1 with e1 e4
      subst e1; subst e4; subst e3
      have h1 : (bs.map ptrV)[place ltB x t.kids]? = some (ptrV bs[place ltB x t.kids]) := by rw [List.getElem?_map, List.getElem?_eq_getElem hql]; rfl
      rw [h1, ← hkc, h11 _ _ h1]
  obtain ⟨a1, c1, x1, _, _, rfl, rfl, _⟩ := open_shapes O
  obtain ⟨b1, o1, cp, rfl, p1, p2, p3, p4⟩ := hp.open (by simp)
  have k1 := p4 0 x rfl
  rw [Nat.add_zero] at k1
  have kc := O.c2
  obtain ⟨n, hn⟩ : ∃ n, (x :: xs).length = n := ⟨_, rfl⟩
  have hn0 : 0 < n := by rw [← hn]; simp
  have hne : ((n : Int) == 0) = false := by rw [beq_eq_false_iff_ne]; omega
  have hb1 : (0 : Int) < (n : Int) := by omega
  have hso : (kidAt ltB x t.kids).isSome = true := by rw [hk]; rfl
  have hdr : xs.drop (k.lv.length - 1) = (x :: xs).drop k.lv.length := by
    obtain ⟨c, hc⟩ : ∃ c, k.lv.length = c + 1 := ⟨k.lv.length - 1, by rw [hklv]; simp⟩
    rw [hc]; rfl
  rw [hdr]
  rw [hn] at hp p1 hpl ih hkle
  have HSO := Lib.hid hso
  have HO := Lib.hid O
  have HG := Lib.hid G
  have HGK := Lib.hid GK
  have HKL := Lib.hid hklv
  have HP := Lib.hid hp
  have HN := Lib.hid hn
  have HIH := Lib.hid ih
  have HF := Lib.hid hF
  have HGR := Lib.hid hgr
  have HKLV := Lib.hid hKlv
  have HKF := Lib.hid hKf
  have HKLI := Lib.hid hKl
  clear O G GK hp p4 hso hn ih hF hklv hkm hkc hgr hKlv hKf hKl hdr hgt
  rw [HN.out]
  go_enter Tryz.func32, Tryz.ntmps32
  go_wp2_with fail
  go_quiet ((go_at_call 54; exact Calls.quiet_of_same (bsf_open HO.out HG.out.forest HG.out.lim x _)))
  rw [HSO.out]
  have hOV := HO.out.below (below_drew w nq)
  have HOV := Lib.hid hOV
  have HPV := Lib.hid (HP.out.below (below_drew w nq))
  have HGKV := Lib.hid (HGK.out.below (below_drew w nq))
  have HVB := Lib.hid (below_drew w nq)
  obtain ⟨q, hq⟩ : ∃ q, place ltB x t.kids = q := ⟨_, rfl⟩
  have HQ := Lib.hid hq
  rw [hq] at hql hbk ⊢
  clear hq hOV k1 kc HO HP HGK
  generalize w.drewN nq = V at HOV HPV HVB HGKV ⊢
  have kc := HOV.out.c2
  have hbn : bs.length ≤ 1000000 := by rw [HOV.out.hl]; exact HG.out.lim.kids HG.out.forest
  go_wp2_with fail
  refine (cloneN_any (w := V) HOV.out.hk (by omega) (ptr_one bs)).mono ?_
  rintro e w1 ⟨kv1, rfl, hown1, hb1'⟩
  have hVw := HVB.out.trans (hb1'.mono HVB.out.size)
  have HO1 := Lib.hid (HOV.out.below hb1')
  have HP1 := Lib.hid (HPV.out.below hb1')
  have HG1 := Lib.hid (HGKV.out.below hb1')
  have HB1 := Lib.hid hVw
  have HVS := Lib.hid hb1'.size
  have HVW := Lib.hid HVB.out.size
  obtain ⟨g, capg, rfl, hgV, hg1, hncg, hcmg, hgc⟩ : ∃ g cap, kv1 = .slice (some ⟨g, 0, none⟩) bs.length cap ∧ V.heap.size ≤ g ∧ g < w1.heap.size ∧ bs.length ≤ cap ∧ cap ≤ 9223372036854775807 ∧ ∀ j u, (bs.map ptrV)[j]? = some u → w1.cell? ⟨g, j, none⟩ = some u := by
    rcases hown1.2 with ⟨h0, h1⟩ | ⟨g, cap, cur, rfl, h1, h2, h3, h4, h5, h6⟩
    · omega
    · have h7 := RowAt.cases (RowAt.of_owns hown1)
      rcases h7 with ⟨h8, _⟩ | ⟨_, g', off', cap', e, _, h9, h10, h11⟩
      · omega
      · injection e with e1 e2 e3
        injection e1 with e1
        injection e1 with e1 e4
        subst e1; subst e4; subst e3
        exact ⟨g, cap, rfl, h1, h10, h3, h9, fun j u hu => by have := h11 j u hu; rwa [Nat.zero_add] at this⟩
  have HOWN := Lib.hid hown1
  have gk := hgc q _ hbk
  have HBK := Lib.hid hbk
  have hqi : (q : Int) < (bs.length : Int) := by omega
  clear hown1 hb1' kc HOV HPV HVB hVw hgc HGKV hbk
  obtain ⟨sv2, mv2, kv2, bs2, O2⟩ := HG1.out.node.open
  obtain ⟨b3, o3, c3, rfl, r1, r2, r3, r4⟩ := Tp.StrsAt.open O2.hs (by rw [HKL.out]; simp)
  obtain ⟨m0, hm0⟩ : ∃ m, k.lv.length = m := ⟨_, rfl⟩
  have HM0 := Lib.hid hm0
  have hm00 : 0 < m0 := by rw [← hm0, HKL.out]; simp
  rw [hm0] at hkle hkll r1 HGR HKLV HKF HKLI ⊢
  have kc0 := O2.c0
  rw [hm0] at kc0
  have HPW := Lib.hid (show ∀ W, Below w1.heap.size w1 W → ∀ i y, (x :: xs)[i]? = some y → W.cell? ⟨b1, o1 + i, none⟩ = some (.string y) from by
    obtain ⟨b1', o1', cp', e, s1, s2, s3, s4⟩ := HP1.out.open (by simp)
    injection e with e1 e2 e3
    injection e1 with e1
    injection e1 with e1 e4
    subst e1; subst e4; subst e3
    exact fun W hW i y h => cell_below hW (s4 i y h))
  obtain ⟨K, hK⟩ : ∃ K, drp ltB k ((x :: xs).drop m0) = K := ⟨_, rfl⟩
  have HKE := Lib.hid hK
  rw [hK] at HKLV HKF HKLI ⊢
  clear O2 hm0 r3 r4 hK
  have hi1 : (m0 : Int) ≤ (n : Int) := by omega
  have hi2 : (n : Int) ≤ (cp : Int) := by omega
  have hi3 : m0 ≤ cp := by omega
  have hi4 : (m0 : Int) ≤ (cp : Int) := by omega
  go_wp2_with fail
  have z0 := regr_cell gk
  have z2 := regr_cell kc0
  refine wp_region_norm_below [] [] (List.range 14) [14, 15] [14, 15] (by kernel_rfl) (by kernel_rfl) (fun _ _ d _ _ h => by cases d <;> exact h) ?_
  simp only [pick, List.range, List.range.loop, List.filterMap_cons, List.filterMap_nil, List.getElem?_toArray, List.getElem?_cons_zero, List.getElem?_cons_succ]
  repeat (first | (with_reducible refine wpQuiet_nil ?_) | quiet_step (fail))
  intro W hW
  change wpList _ _ _ _ _ W
  go_wp2_with fail
  case inl =>
    have hbd : ∀ x, F x → x < W.heap.size := fun y h => by have := HF.out y h; have := HVW.out; have := HVS.out; have := hW.size; omega
    refine (HIH.out F W kb k _ ((x :: xs).drop m0) (by rw [List.length_drop, HN.out]; omega) (HG1.out.below hW) hbd (by have h := StrsAt.drop m0 hkle HN.out p1 p2 (HPW.out W hW) (some ⟨b1, o1, none⟩) (fun h => by omega); rw [show cp - m0 = 0 by omega] at h; exact h) HGR.out).mono ?_
    rintro e w3 ⟨q', rfl, hn3, hb3⟩
    have HB3 := Lib.hid (hW.trans (hb3.mono hW.size))
    rw [HKE.out] at hn3
    have HN3 := Lib.hid (NodeAt.mono (since_weak hW.size) hn3)
    have gk3 : w3.cell? ⟨g, q, none⟩ = some (.pointer (some ⟨kb, 0, none⟩)) := cell_below HB3.out gk
    have gf3 : w3.frozen? ⟨g, q, none⟩ = false := (owns_below HOWN.out HB3.out).frozenAt q
    clear hW hb3 hn3 z0 z2 gk kc0
    obtain ⟨svK, mvK, kvK, bsK, OK⟩ := HN3.out.open
    obtain ⟨aK, cK, xK, aK2, cK2, rfl, rfl, rfl⟩ := open_shapes OK
    have y1 := OK.c1
    have y2 := OK.c2
    have hKl := OK.hl
    have HOK := Lib.hid OK
    by_cases hA : K.val.isSome = true ∨ 1 < K.kids.length
    · by_cases hv : K.val.isSome = true
      · obtain ⟨vm, hvm⟩ := Option.isSome_iff_exists.1 hv
        have hmp := OK.hm
        rw [hvm] at hmp
        obtain ⟨mb, hmb, -⟩ := hmp
        injection hmb with hmb
        subst hmb
        clear OK hKl
        have HREP := Lib.hid (show repl q K t.kids = t.kids.set q K from by unfold repl; rw [if_pos hA])
        have hpg : p ≠ g := fun e => by have := HF.out p HO1.out.mem; have := HVW.out; omega
        have z0' : (w3.setCell ⟨g, q, none⟩ (.pointer (some ⟨q', 0, none⟩))).cell? ⟨p, 0, none⟩ = some (.slice a1 t.lv.length c1) := (World.cell?_setCell_other _ _ _ _ (fun e => hpg (by injection e with e; exact e.symm))).trans (cell_below HB3.out HO1.out.c0)
        have z1' : (w3.setCell ⟨g, q, none⟩ (.pointer (some ⟨q', 0, none⟩))).cell? ⟨p, 1, none⟩ = some (.pointer x1) := (World.cell?_setCell_other _ _ _ _ (fun e => hpg (by injection e with e; exact e.symm))).trans (cell_below HB3.out HO1.out.c1)
        go_wp2_with fail
        have z0 := regr_cell z0'
        have z2 := regr_cell z1'
        have hq4 : ∃ w6, w3.setCell ⟨g, q, none⟩ (.pointer (some ⟨q', 0, none⟩)) = w6 := ⟨_, rfl⟩
        obtain ⟨w6, hw4⟩ := hq4
        have HW4 := Lib.hid hw4
        rw [hw4] at z0 z2 ⊢
        clear z0' z1' hw4
        refine wp_region_norm_below [0, 1, 2, 4, 5, 6, 8] [3, 7] [] [9, 10, 11] [9, 10, 11] (by kernel_rfl) (by kernel_rfl) (fun _ _ d _ _ h => by cases d <;> exact h) ?_
        simp only [pick, List.filterMap_cons, List.filterMap_nil, List.getElem?_toArray, List.getElem?_cons_zero, List.getElem?_cons_succ]
        repeat (first | (with_reducible refine wpQuiet_nil ?_) | quiet_step (fail))
        intro V4 hV4
        change wpList _ _ _ _ _ V4
        have HV4 := Lib.hid hV4
        clear hV4 z0 z2
        go_wp2_with fail
        go_ret
        obtain ⟨f1, f2⟩ := put_fin (ty := 60) HF.out HB1.out HO1.out HVW.out HOWN.out HB3.out HN3.out HW4.out HV4.out rfl
        exact ⟨V4.heap.size, rfl, by simp only [HQ.out, HM0.out, HKE.out, HREP.out]; exact f1, f2⟩
      · have hlen : 1 < bsK.length := by rw [hKl]; exact hA.resolve_left hv
        have hmp := OK.hm
        rw [show K.val = none from by cases h : K.val with | none => rfl | some v => rw [h] at hv; exact absurd rfl hv] at hmp
        injection hmp with hmb
        subst hmb
        have hgt : decide ((1 : Int) < (bsK.length : Int)) = true := decide_eq_true (by omega)
        have hgt2 : (1 : Int) < (bsK.length : Int) := by omega
        clear OK hKl
        have HREP := Lib.hid (show repl q K t.kids = t.kids.set q K from by unfold repl; rw [if_pos hA])
        have hpg : p ≠ g := fun e => by have := HF.out p HO1.out.mem; have := HVW.out; omega
        have z0' : (w3.setCell ⟨g, q, none⟩ (.pointer (some ⟨q', 0, none⟩))).cell? ⟨p, 0, none⟩ = some (.slice a1 t.lv.length c1) := (World.cell?_setCell_other _ _ _ _ (fun e => hpg (by injection e with e; exact e.symm))).trans (cell_below HB3.out HO1.out.c0)
        have z1' : (w3.setCell ⟨g, q, none⟩ (.pointer (some ⟨q', 0, none⟩))).cell? ⟨p, 1, none⟩ = some (.pointer x1) := (World.cell?_setCell_other _ _ _ _ (fun e => hpg (by injection e with e; exact e.symm))).trans (cell_below HB3.out HO1.out.c1)
        go_wp2_with fail
        have z0 := regr_cell z0'
        have z2 := regr_cell z1'
        have hq4 : ∃ w6, w3.setCell ⟨g, q, none⟩ (.pointer (some ⟨q', 0, none⟩)) = w6 := ⟨_, rfl⟩
        obtain ⟨w6, hw4⟩ := hq4
        have HW4 := Lib.hid hw4
        rw [hw4] at z0 z2 ⊢
        clear z0' z1' hw4
        refine wp_region_norm_below [0, 1, 2, 4, 5, 6, 8] [3, 7] [] [9, 10, 11] [9, 10, 11] (by kernel_rfl) (by kernel_rfl) (fun _ _ d _ _ h => by cases d <;> exact h) ?_
        simp only [pick, List.filterMap_cons, List.filterMap_nil, List.getElem?_toArray, List.getElem?_cons_zero, List.getElem?_cons_succ]
        repeat (first | (with_reducible refine wpQuiet_nil ?_) | quiet_step (fail))
        intro V4 hV4
        change wpList _ _ _ _ _ V4
        have HV4 := Lib.hid hV4
        clear hV4 z0 z2
        go_wp2_with fail
        go_ret
        obtain ⟨f1, f2⟩ := put_fin (ty := 60) HF.out HB1.out HO1.out HVW.out HOWN.out HB3.out HN3.out HW4.out HV4.out rfl
        exact ⟨V4.heap.size, rfl, by simp only [HQ.out, HM0.out, HKE.out, HREP.out]; exact f1, f2⟩
    · have hv : K.val = none := by cases h : K.val with | none => rfl | some v => exact absurd (.inl (by rw [h]; rfl)) hA
      have hmp := OK.hm
      rw [hv] at hmp
      injection hmp with hmb
      subst hmb
      cases hks : K.kids with
      | nil =>
        have hb0 : bsK = [] := List.eq_nil_of_length_eq_zero (by rw [hKl, hks]; rfl)
        have HREP := Lib.hid (show repl q K t.kids = t.kids.take q ++ t.kids.drop (q + 1) from by unfold repl; rw [if_neg hA, hks])
        rw [hb0] at y2
        have y2' : w3.cell? ⟨q', 2, none⟩ = some (.slice aK2 0 cK2) := y2
        have hle : decide ((1 : Int) < ((0 : Nat) : Int)) = false := by decide
        have HD := Lib.hid (delN_any (w := w3) (owns_below HOWN.out HB3.out) hql (by omega) (ptr_one bs))
        have hsz3 := HB3.out.size
        clear OK hKl hks hb0 y2
        go_wp2_with fail
        refine HD.out.mono ?_
        rintro e w4 ⟨v4, rfl, hown4, hgr4⟩
        obtain ⟨a4, c4, rfl⟩ := owns_slice hown4
        have HOW4 := Lib.hid hown4
        have HGR4 := Lib.hid hgr4
        have hpg : (some p : Option Nat) ≠ (Value.slice (some ⟨g, 0, none⟩) bs.length capg).ownBlock := fun e => by have e' : p = g := (by simpa [Value.ownBlock] using e); have := HF.out p HO1.out.mem; have := HVW.out; omega
        have z0' : w4.cell? ⟨p, 0, none⟩ = some (.slice a1 t.lv.length c1) := grown_cell hgr4 (cell_below HB3.out HO1.out.c0) hpg
        have z1' : w4.cell? ⟨p, 1, none⟩ = some (.pointer x1) := grown_cell hgr4 (cell_below HB3.out HO1.out.c1) hpg
        clear hown4 hgr4
        go_wp2_with fail
        have z0 := regr_cell z0'
        have z2 := regr_cell z1'
        clear z0' z1'
        refine wp_region_norm_below [0, 1, 2, 4, 5, 6, 8] [3, 7] [] [9, 10, 11] [9, 10, 11] (by kernel_rfl) (by kernel_rfl) (fun _ _ d _ _ h => by cases d <;> exact h) ?_
        simp only [pick, List.filterMap_cons, List.filterMap_nil, List.getElem?_toArray, List.getElem?_cons_zero, List.getElem?_cons_succ]
        repeat (first | (with_reducible refine wpQuiet_nil ?_) | quiet_step (fail))
        intro V4 hV4
        change wpList _ _ _ _ _ V4
        have HV4 := Lib.hid hV4
        clear hV4 z0 z2
        go_wp2_with fail
        go_ret
        obtain ⟨f1, f2⟩ := del_fin (ty := 60) HF.out HB1.out HO1.out HVW.out HOWN.out HB3.out hql HOW4.out HGR4.out HV4.out rfl
        exact ⟨V4.heap.size, rfl, by simp only [HQ.out, HM0.out, HKE.out, HREP.out]; exact f1, f2⟩
      | cons only rest =>
        have hr0 : rest = [] := by
          cases rest with
          | nil => rfl
          | cons a b => exact absurd (.inr (by rw [hks]; simp)) hA
        subst hr0
        have HREP := Lib.hid (show repl q K t.kids = t.kids.set q (.node (K.lv ++ only.lv) only.val only.kids) from by unfold repl; rw [if_neg hA, hks])
        have honly : only ∈ K.kids := by rw [hks]; simp
        obtain ⟨ob, hb0⟩ : ∃ ob, bsK = [ob] := by
          cases bsK with
          | nil => rw [hks] at hKl; simp at hKl
          | cons ob r => cases r with
            | nil => exact ⟨ob, rfl⟩
            | cons a b => rw [hks] at hKl; simp at hKl
        subst hb0
        have GO := OK.hn 0 ob only rfl (by rw [hks]; rfl)
        have hobm : Since F w1 w3 ob := by obtain ⟨_, _, _, _, O⟩ := GO.open; exact O.mem
        obtain ⟨b4, o4, hk4⟩ : ∃ b4 o4, aK2 = some ⟨b4, o4, none⟩ ∧ w3.cell? ⟨b4, o4, none⟩ = some (.pointer (some ⟨ob, 0, none⟩)) := by
          rcases RowAt.cases OK.hk with ⟨h8, _⟩ | ⟨_, g', off', cap', e, _, h9, h10, h11⟩
          · simp at h8
          · injection e with e1 e2 e3
            exact ⟨g', off', e1, h11 0 _ rfl⟩
        obtain ⟨rfl, y4⟩ := hk4
        have y2' : w3.cell? ⟨q', 2, none⟩ = some (.slice (some ⟨b4, o4, none⟩) 1 cK2) := y2
        obtain ⟨svO, mvO, kvO, bsO, OO⟩ := GO.open
        obtain ⟨aO, cO, xO, aO2, cO2, rfl, rfl, rfl⟩ := open_shapes OO
        have s0 := OO.c0
        have s1 := OO.c1
        have s2 := OO.c2
        have t0 := OK.c0
        have hsz3 := HB3.out.size
        have hnq : q' ≠ g := fun e => by
          have := HN3.out.open
          obtain ⟨_, _, _, _, O⟩ := this
          rcases O.mem with h | h
          · have := HF.out q' h; have := HVW.out; omega
          · omega
        have hno : ob ≠ g := fun e => by
          rcases hobm with h | h
          · have := HF.out ob h; have := HVW.out; omega
          · omega
        have hKne : 0 < K.lv.length := by rw [HKLV.out, HM0.out]; exact hm00
        have hOne : 0 < only.lv.length := List.length_pos_iff.2 (HKF.out.ne only honly)
        have hKlim : K.lv.length ≤ 1000000001 := by rw [HKLV.out, HM0.out]; exact hkll
        have hOlim : only.lv.length ≤ 1000000001 := HKLI.out.lv HKF.out honly
        have HCAT := Lib.hid (cat_ready (W := w3) OK.hs OO.hs (List.length_pos_iff.1 hKne) (List.length_pos_iff.1 hOne) hKlim hOlim)
        obtain ⟨NN, hNN⟩ : ∃ N, (K.lv ++ only.lv).length = N := ⟨_, rfl⟩
        rw [hNN] at HCAT
        have HNN := Lib.hid hNN
        clear hNN
        have HKS := Lib.hid (show ∀ W', Below w3.heap.size w3 W' → W'.cell? ⟨q', 0, none⟩ = some (.slice aK K.lv.length cK) ∧ W'.cell? ⟨ob, 0, none⟩ = some (.slice aO only.lv.length cO) ∧ W'.cell? ⟨ob, 1, none⟩ = some (.pointer xO) ∧ W'.cell? ⟨ob, 2, none⟩ = some (.slice aO2 bsO.length cO2) ∧ (∃ u, W'.cell? ⟨g, q, none⟩ = some u) ∧ W'.frozen? ⟨g, q, none⟩ = false from
          fun W' hb => ⟨cell_below hb t0, cell_below hb s0, cell_below hb s1, cell_below hb s2, ⟨_, cell_below hb gk3⟩, (owns_below HOWN.out (HB3.out.trans (hb.mono hsz3))).frozenAt q⟩)
        have HKS2 := Lib.hid (show ∀ W' v, Below w3.heap.size w3 W' → (W'.setCell ⟨g, q, none⟩ v).cell? ⟨q', 0, none⟩ = some (.slice aK K.lv.length cK) ∧ (W'.setCell ⟨g, q, none⟩ v).cell? ⟨ob, 0, none⟩ = some (.slice aO only.lv.length cO) ∧ (W'.setCell ⟨g, q, none⟩ v).cell? ⟨ob, 1, none⟩ = some (.pointer xO) ∧ (W'.setCell ⟨g, q, none⟩ v).cell? ⟨ob, 2, none⟩ = some (.slice aO2 bsO.length cO2) ∧ (∃ u, (W'.setCell ⟨g, q, none⟩ v).cell? ⟨g, q, none⟩ = some u) ∧ (W'.setCell ⟨g, q, none⟩ v).frozen? ⟨g, q, none⟩ = false from
          fun W' v hb => ⟨(World.cell?_setCell_other _ _ _ _ (fun e => hnq (by injection e with e; exact e.symm))).trans (cell_below hb t0), (World.cell?_setCell_other _ _ _ _ (fun e => hno (by injection e with e; exact e.symm))).trans (cell_below hb s0), (World.cell?_setCell_other _ _ _ _ (fun e => hno (by injection e with e; exact e.symm))).trans (cell_below hb s1), (World.cell?_setCell_other _ _ _ _ (fun e => hno (by injection e with e; exact e.symm))).trans (cell_below hb s2), cell?_setCell_some (cell_below hb gk3), (World.frozen?_setCell _ _ _ _).trans ((owns_below HOWN.out (HB3.out.trans (hb.mono hsz3))).frozenAt q)⟩)
        have HOO := Lib.hid OO
        have hle : decide ((1 : Int) < ((1 : Nat) : Int)) = false := by decide
        clear OK OO GO hKl hks y2 hobm
        go_wp2_with fail
        first
          | (go_region_held3 (fun w' => w'.cell? ⟨q', 0, none⟩ = some (.slice aK K.lv.length cK) ∧ w'.cell? ⟨ob, 0, none⟩ = some (.slice aO only.lv.length cO) ∧ w'.cell? ⟨ob, 1, none⟩ = some (.pointer xO) ∧ w'.cell? ⟨ob, 2, none⟩ = some (.slice aO2 bsO.length cO2) ∧ (∃ u, w'.cell? ⟨g, q, none⟩ = some u) ∧ w'.frozen? ⟨g, q, none⟩ = false)
              (first
                | (refine HKS.out _ ?_; first | exact (Below.refl _ w3).drew | exact ((Below.refl _ w3).alloc (Nat.le_refl _) _).drew | exact ((Below.refl _ w3).alloc (Nat.le_refl _) _) | exact HB4.out | exact HB4.out.drew | exact HB4.out.alloc HB4.out.size _ | exact (HB4.out.alloc HB4.out.size _).drew)
                | (refine HKS2.out _ _ ?_; first | exact HB4.out.alloc HB4.out.size _ | exact (HB4.out.alloc HB4.out.size _).drew)
                | fail "keep")
              (first
                | (go_at_call 63; refine (HCAT.out _ _ (((Below.refl _ w3).alloc (Nat.le_refl _) _).drew) (MapKept.heap_alloc w3 _).1).mono ?_; rintro e w4 ⟨vv, rfl, hown4, hb4⟩; obtain ⟨av, cv, rfl⟩ := owns_slice hown4; have HB4 := Lib.hid hb4; have HOW4 := Lib.hid hown4; have gk4 : (w4.alloc (.cells #[.slice av NN cv, .pointer xO, .slice aO2 bsO.length cO2] 60)).cell? ⟨g, q, none⟩ = some (.pointer (some ⟨kb, 0, none⟩)) := cell_below (hb4.alloc hb4.size _) gk3; have gf4 : (w4.alloc (.cells #[.slice av NN cv, .pointer xO, .slice aO2 bsO.length cO2] 60)).frozen? ⟨g, q, none⟩ = false := (owns_below HOWN.out (HB3.out.trans ((hb4.alloc hb4.size _).mono hsz3))).frozenAt q; clear hown4 hb4)
                | fail "arm"))
          | fail "x"
        have hpg : p ≠ g := fun e => by have := HF.out p HO1.out.mem; have := HVW.out; omega
        obtain ⟨A4, hA4⟩ : ∃ A4, w4.alloc (.cells #[.slice av NN cv, .pointer xO, .slice aO2 bsO.length cO2] 60) = A4 := ⟨_, rfl⟩
        have hrow4 := HOW4.out
        rw [← HNN.out] at hrow4 hA4
        obtain ⟨m1, m2⟩ := merge_node HOO.out HB4.out hrow4 (Nat.le_refl _) hA4
        rw [HNN.out] at hA4
        have hbA : Below w1.heap.size w1 A4 := HB3.out.trans (m2.mono hsz3)
        have HM1 := Lib.hid (NodeAt.mono (since_since hsz3 m2.size) m1)
        have HBA := Lib.hid hbA
        rw [hA4]
        have z0' : (A4.setCell ⟨g, q, none⟩ (.pointer (some ⟨w4.heap.size, 0, none⟩))).cell? ⟨p, 0, none⟩ = some (.slice a1 t.lv.length c1) := (World.cell?_setCell_other _ _ _ _ (fun e => hpg (by injection e with e; exact e.symm))).trans (cell_below hbA HO1.out.c0)
        have z1' : (A4.setCell ⟨g, q, none⟩ (.pointer (some ⟨w4.heap.size, 0, none⟩))).cell? ⟨p, 1, none⟩ = some (.pointer x1) := (World.cell?_setCell_other _ _ _ _ (fun e => hpg (by injection e with e; exact e.symm))).trans (cell_below hbA HO1.out.c1)
        clear hbA m1 m2 hrow4 gk4 gf4 hA4
        go_wp2_with fail
        have z0 := regr_cell z0'
        have z2 := regr_cell z1'
        have hq4 : ∃ w6, A4.setCell ⟨g, q, none⟩ (.pointer (some ⟨w4.heap.size, 0, none⟩)) = w6 := ⟨_, rfl⟩
        obtain ⟨w6, hw4⟩ := hq4
        have HW4 := Lib.hid hw4
        rw [hw4] at z0 z2 ⊢
        clear z0' z1' hw4
        refine wp_region_norm_below [0, 1, 2, 4, 5, 6, 8] [3, 7] [] [9, 10, 11] [9, 10, 11] (by kernel_rfl) (by kernel_rfl) (fun _ _ d _ _ h => by cases d <;> exact h) ?_
        simp only [pick, List.filterMap_cons, List.filterMap_nil, List.getElem?_toArray, List.getElem?_cons_zero, List.getElem?_cons_succ]
        repeat (first | (with_reducible refine wpQuiet_nil ?_) | quiet_step (fail))
        intro V4 hV4
        change wpList _ _ _ _ _ V4
        have HV4 := Lib.hid hV4
        clear hV4 z0 z2
        go_wp2_with fail
        go_ret
        obtain ⟨f1, f2⟩ := put_fin (ty := 60) HF.out HB1.out HO1.out HVW.out HOWN.out HBA.out HM1.out HW4.out HV4.out rfl
        exact ⟨V4.heap.size, rfl, by simp only [HQ.out, HM0.out, HKE.out, HREP.out]; exact f1, f2⟩
  case inr =>
    have hbd : ∀ x, F x → x < W.heap.size := fun y h => by have := HF.out y h; have := HVW.out; have := HVS.out; have := hW.size; omega
    refine (HIH.out F W kb k _ ((x :: xs).drop m0) (by rw [List.length_drop, HN.out]; omega) (HG1.out.below hW) hbd (StrsAt.drop m0 hkle HN.out p1 p2 (HPW.out W hW) _ (fun h => rfl)) HGR.out).mono ?_
    rintro e w3 ⟨q', rfl, hn3, hb3⟩
    have HB3 := Lib.hid (hW.trans (hb3.mono hW.size))
    rw [HKE.out] at hn3
    have HN3 := Lib.hid (NodeAt.mono (since_weak hW.size) hn3)
    have gk3 : w3.cell? ⟨g, q, none⟩ = some (.pointer (some ⟨kb, 0, none⟩)) := cell_below HB3.out gk
    have gf3 : w3.frozen? ⟨g, q, none⟩ = false := (owns_below HOWN.out HB3.out).frozenAt q
    clear hW hb3 hn3 z0 z2 gk kc0
    obtain ⟨svK, mvK, kvK, bsK, OK⟩ := HN3.out.open
    obtain ⟨aK, cK, xK, aK2, cK2, rfl, rfl, rfl⟩ := open_shapes OK
    have y1 := OK.c1
    have y2 := OK.c2
    have hKl := OK.hl
    have HOK := Lib.hid OK
    by_cases hA : K.val.isSome = true ∨ 1 < K.kids.length
    · by_cases hv : K.val.isSome = true
      · obtain ⟨vm, hvm⟩ := Option.isSome_iff_exists.1 hv
        have hmp := OK.hm
        rw [hvm] at hmp
        obtain ⟨mb, hmb, -⟩ := hmp
        injection hmb with hmb
        subst hmb
        clear OK hKl
        have HREP := Lib.hid (show repl q K t.kids = t.kids.set q K from by unfold repl; rw [if_pos hA])
        have hpg : p ≠ g := fun e => by have := HF.out p HO1.out.mem; have := HVW.out; omega
        have z0' : (w3.setCell ⟨g, q, none⟩ (.pointer (some ⟨q', 0, none⟩))).cell? ⟨p, 0, none⟩ = some (.slice a1 t.lv.length c1) := (World.cell?_setCell_other _ _ _ _ (fun e => hpg (by injection e with e; exact e.symm))).trans (cell_below HB3.out HO1.out.c0)
        have z1' : (w3.setCell ⟨g, q, none⟩ (.pointer (some ⟨q', 0, none⟩))).cell? ⟨p, 1, none⟩ = some (.pointer x1) := (World.cell?_setCell_other _ _ _ _ (fun e => hpg (by injection e with e; exact e.symm))).trans (cell_below HB3.out HO1.out.c1)
        go_wp2_with fail
        have z0 := regr_cell z0'
        have z2 := regr_cell z1'
        have hq4 : ∃ w6, w3.setCell ⟨g, q, none⟩ (.pointer (some ⟨q', 0, none⟩)) = w6 := ⟨_, rfl⟩
        obtain ⟨w6, hw4⟩ := hq4
        have HW4 := Lib.hid hw4
        rw [hw4] at z0 z2 ⊢
        clear z0' z1' hw4
        refine wp_region_norm_below [0, 1, 2, 4, 5, 6, 8] [3, 7] [] [9, 10, 11] [9, 10, 11] (by kernel_rfl) (by kernel_rfl) (fun _ _ d _ _ h => by cases d <;> exact h) ?_
        simp only [pick, List.filterMap_cons, List.filterMap_nil, List.getElem?_toArray, List.getElem?_cons_zero, List.getElem?_cons_succ]
        repeat (first | (with_reducible refine wpQuiet_nil ?_) | quiet_step (fail))
        intro V4 hV4
        change wpList _ _ _ _ _ V4
        have HV4 := Lib.hid hV4
        clear hV4 z0 z2
        go_wp2_with fail
        go_ret
        obtain ⟨f1, f2⟩ := put_fin (ty := 60) HF.out HB1.out HO1.out HVW.out HOWN.out HB3.out HN3.out HW4.out HV4.out rfl
        exact ⟨V4.heap.size, rfl, by simp only [HQ.out, HM0.out, HKE.out, HREP.out]; exact f1, f2⟩
      · have hlen : 1 < bsK.length := by rw [hKl]; exact hA.resolve_left hv
        have hmp := OK.hm
        rw [show K.val = none from by cases h : K.val with | none => rfl | some v => rw [h] at hv; exact absurd rfl hv] at hmp
        injection hmp with hmb
        subst hmb
        have hgt : decide ((1 : Int) < (bsK.length : Int)) = true := decide_eq_true (by omega)
        have hgt2 : (1 : Int) < (bsK.length : Int) := by omega
        clear OK hKl
        have HREP := Lib.hid (show repl q K t.kids = t.kids.set q K from by unfold repl; rw [if_pos hA])
        have hpg : p ≠ g := fun e => by have := HF.out p HO1.out.mem; have := HVW.out; omega
        have z0' : (w3.setCell ⟨g, q, none⟩ (.pointer (some ⟨q', 0, none⟩))).cell? ⟨p, 0, none⟩ = some (.slice a1 t.lv.length c1) := (World.cell?_setCell_other _ _ _ _ (fun e => hpg (by injection e with e; exact e.symm))).trans (cell_below HB3.out HO1.out.c0)
        have z1' : (w3.setCell ⟨g, q, none⟩ (.pointer (some ⟨q', 0, none⟩))).cell? ⟨p, 1, none⟩ = some (.pointer x1) := (World.cell?_setCell_other _ _ _ _ (fun e => hpg (by injection e with e; exact e.symm))).trans (cell_below HB3.out HO1.out.c1)
        go_wp2_with fail
        have z0 := regr_cell z0'
        have z2 := regr_cell z1'
        have hq4 : ∃ w6, w3.setCell ⟨g, q, none⟩ (.pointer (some ⟨q', 0, none⟩)) = w6 := ⟨_, rfl⟩
        obtain ⟨w6, hw4⟩ := hq4
        have HW4 := Lib.hid hw4
        rw [hw4] at z0 z2 ⊢
        clear z0' z1' hw4
        refine wp_region_norm_below [0, 1, 2, 4, 5, 6, 8] [3, 7] [] [9, 10, 11] [9, 10, 11] (by kernel_rfl) (by kernel_rfl) (fun _ _ d _ _ h => by cases d <;> exact h) ?_
        simp only [pick, List.filterMap_cons, List.filterMap_nil, List.getElem?_toArray, List.getElem?_cons_zero, List.getElem?_cons_succ]
        repeat (first | (with_reducible refine wpQuiet_nil ?_) | quiet_step (fail))
        intro V4 hV4
        change wpList _ _ _ _ _ V4
        have HV4 := Lib.hid hV4
        clear hV4 z0 z2
        go_wp2_with fail
        go_ret
        obtain ⟨f1, f2⟩ := put_fin (ty := 60) HF.out HB1.out HO1.out HVW.out HOWN.out HB3.out HN3.out HW4.out HV4.out rfl
        exact ⟨V4.heap.size, rfl, by simp only [HQ.out, HM0.out, HKE.out, HREP.out]; exact f1, f2⟩
    · have hv : K.val = none := by cases h : K.val with | none => rfl | some v => exact absurd (.inl (by rw [h]; rfl)) hA
      have hmp := OK.hm
      rw [hv] at hmp
      injection hmp with hmb
      subst hmb
      cases hks : K.kids with
      | nil =>
        have hb0 : bsK = [] := List.eq_nil_of_length_eq_zero (by rw [hKl, hks]; rfl)
        have HREP := Lib.hid (show repl q K t.kids = t.kids.take q ++ t.kids.drop (q + 1) from by unfold repl; rw [if_neg hA, hks])
        rw [hb0] at y2
        have y2' : w3.cell? ⟨q', 2, none⟩ = some (.slice aK2 0 cK2) := y2
        have hle : decide ((1 : Int) < ((0 : Nat) : Int)) = false := by decide
        have HD := Lib.hid (delN_any (w := w3) (owns_below HOWN.out HB3.out) hql (by omega) (ptr_one bs))
        have hsz3 := HB3.out.size
        clear OK hKl hks hb0 y2
        go_wp2_with fail
        refine HD.out.mono ?_
        rintro e w4 ⟨v4, rfl, hown4, hgr4⟩
        obtain ⟨a4, c4, rfl⟩ := owns_slice hown4
        have HOW4 := Lib.hid hown4
        have HGR4 := Lib.hid hgr4
        have hpg : (some p : Option Nat) ≠ (Value.slice (some ⟨g, 0, none⟩) bs.length capg).ownBlock := fun e => by have e' : p = g := (by simpa [Value.ownBlock] using e); have := HF.out p HO1.out.mem; have := HVW.out; omega
        have z0' : w4.cell? ⟨p, 0, none⟩ = some (.slice a1 t.lv.length c1) := grown_cell hgr4 (cell_below HB3.out HO1.out.c0) hpg
        have z1' : w4.cell? ⟨p, 1, none⟩ = some (.pointer x1) := grown_cell hgr4 (cell_below HB3.out HO1.out.c1) hpg
        clear hown4 hgr4
        go_wp2_with fail
        have z0 := regr_cell z0'
        have z2 := regr_cell z1'
        clear z0' z1'
        refine wp_region_norm_below [0, 1, 2, 4, 5, 6, 8] [3, 7] [] [9, 10, 11] [9, 10, 11] (by kernel_rfl) (by kernel_rfl) (fun _ _ d _ _ h => by cases d <;> exact h) ?_
        simp only [pick, List.filterMap_cons, List.filterMap_nil, List.getElem?_toArray, List.getElem?_cons_zero, List.getElem?_cons_succ]
        repeat (first | (with_reducible refine wpQuiet_nil ?_) | quiet_step (fail))
        intro V4 hV4
        change wpList _ _ _ _ _ V4
        have HV4 := Lib.hid hV4
        clear hV4 z0 z2
        go_wp2_with fail
        go_ret
        obtain ⟨f1, f2⟩ := del_fin (ty := 60) HF.out HB1.out HO1.out HVW.out HOWN.out HB3.out hql HOW4.out HGR4.out HV4.out rfl
        exact ⟨V4.heap.size, rfl, by simp only [HQ.out, HM0.out, HKE.out, HREP.out]; exact f1, f2⟩
      | cons only rest =>
        have hr0 : rest = [] := by
          cases rest with
          | nil => rfl
          | cons a b => exact absurd (.inr (by rw [hks]; simp)) hA
        subst hr0
        have HREP := Lib.hid (show repl q K t.kids = t.kids.set q (.node (K.lv ++ only.lv) only.val only.kids) from by unfold repl; rw [if_neg hA, hks])
        have honly : only ∈ K.kids := by rw [hks]; simp
        obtain ⟨ob, hb0⟩ : ∃ ob, bsK = [ob] := by
          cases bsK with
          | nil => rw [hks] at hKl; simp at hKl
          | cons ob r => cases r with
            | nil => exact ⟨ob, rfl⟩
            | cons a b => rw [hks] at hKl; simp at hKl
        subst hb0
        have GO := OK.hn 0 ob only rfl (by rw [hks]; rfl)
        have hobm : Since F w1 w3 ob := by obtain ⟨_, _, _, _, O⟩ := GO.open; exact O.mem
        obtain ⟨b4, o4, hk4⟩ : ∃ b4 o4, aK2 = some ⟨b4, o4, none⟩ ∧ w3.cell? ⟨b4, o4, none⟩ = some (.pointer (some ⟨ob, 0, none⟩)) := by
          rcases RowAt.cases OK.hk with ⟨h8, _⟩ | ⟨_, g', off', cap', e, _, h9, h10, h11⟩
          · simp at h8
          · injection e with e1 e2 e3
            exact ⟨g', off', e1, h11 0 _ rfl⟩
        obtain ⟨rfl, y4⟩ := hk4
        have y2' : w3.cell? ⟨q', 2, none⟩ = some (.slice (some ⟨b4, o4, none⟩) 1 cK2) := y2
        obtain ⟨svO, mvO, kvO, bsO, OO⟩ := GO.open
        obtain ⟨aO, cO, xO, aO2, cO2, rfl, rfl, rfl⟩ := open_shapes OO
        have s0 := OO.c0
        have s1 := OO.c1
        have s2 := OO.c2
        have t0 := OK.c0
        have hsz3 := HB3.out.size
        have hnq : q' ≠ g := fun e => by
          have := HN3.out.open
          obtain ⟨_, _, _, _, O⟩ := this
          rcases O.mem with h | h
          · have := HF.out q' h; have := HVW.out; omega
          · omega
        have hno : ob ≠ g := fun e => by
          rcases hobm with h | h
          · have := HF.out ob h; have := HVW.out; omega
          · omega
        have hKne : 0 < K.lv.length := by rw [HKLV.out, HM0.out]; exact hm00
        have hOne : 0 < only.lv.length := List.length_pos_iff.2 (HKF.out.ne only honly)
        have hKlim : K.lv.length ≤ 1000000001 := by rw [HKLV.out, HM0.out]; exact hkll
        have hOlim : only.lv.length ≤ 1000000001 := HKLI.out.lv HKF.out honly
        have HCAT := Lib.hid (cat_ready (W := w3) OK.hs OO.hs (List.length_pos_iff.1 hKne) (List.length_pos_iff.1 hOne) hKlim hOlim)
        obtain ⟨NN, hNN⟩ : ∃ N, (K.lv ++ only.lv).length = N := ⟨_, rfl⟩
        rw [hNN] at HCAT
        have HNN := Lib.hid hNN
        clear hNN
        have HKS := Lib.hid (show ∀ W', Below w3.heap.size w3 W' → W'.cell? ⟨q', 0, none⟩ = some (.slice aK K.lv.length cK) ∧ W'.cell? ⟨ob, 0, none⟩ = some (.slice aO only.lv.length cO) ∧ W'.cell? ⟨ob, 1, none⟩ = some (.pointer xO) ∧ W'.cell? ⟨ob, 2, none⟩ = some (.slice aO2 bsO.length cO2) ∧ (∃ u, W'.cell? ⟨g, q, none⟩ = some u) ∧ W'.frozen? ⟨g, q, none⟩ = false from
          fun W' hb => ⟨cell_below hb t0, cell_below hb s0, cell_below hb s1, cell_below hb s2, ⟨_, cell_below hb gk3⟩, (owns_below HOWN.out (HB3.out.trans (hb.mono hsz3))).frozenAt q⟩)
        have HKS2 := Lib.hid (show ∀ W' v, Below w3.heap.size w3 W' → (W'.setCell ⟨g, q, none⟩ v).cell? ⟨q', 0, none⟩ = some (.slice aK K.lv.length cK) ∧ (W'.setCell ⟨g, q, none⟩ v).cell? ⟨ob, 0, none⟩ = some (.slice aO only.lv.length cO) ∧ (W'.setCell ⟨g, q, none⟩ v).cell? ⟨ob, 1, none⟩ = some (.pointer xO) ∧ (W'.setCell ⟨g, q, none⟩ v).cell? ⟨ob, 2, none⟩ = some (.slice aO2 bsO.length cO2) ∧ (∃ u, (W'.setCell ⟨g, q, none⟩ v).cell? ⟨g, q, none⟩ = some u) ∧ (W'.setCell ⟨g, q, none⟩ v).frozen? ⟨g, q, none⟩ = false from
          fun W' v hb => ⟨(World.cell?_setCell_other _ _ _ _ (fun e => hnq (by injection e with e; exact e.symm))).trans (cell_below hb t0), (World.cell?_setCell_other _ _ _ _ (fun e => hno (by injection e with e; exact e.symm))).trans (cell_below hb s0), (World.cell?_setCell_other _ _ _ _ (fun e => hno (by injection e with e; exact e.symm))).trans (cell_below hb s1), (World.cell?_setCell_other _ _ _ _ (fun e => hno (by injection e with e; exact e.symm))).trans (cell_below hb s2), cell?_setCell_some (cell_below hb gk3), (World.frozen?_setCell _ _ _ _).trans ((owns_below HOWN.out (HB3.out.trans (hb.mono hsz3))).frozenAt q)⟩)
        have HOO := Lib.hid OO
        have hle : decide ((1 : Int) < ((1 : Nat) : Int)) = false := by decide
        clear OK OO GO hKl hks y2 hobm
        go_wp2_with fail
        first
          | (go_region_held3 (fun w' => w'.cell? ⟨q', 0, none⟩ = some (.slice aK K.lv.length cK) ∧ w'.cell? ⟨ob, 0, none⟩ = some (.slice aO only.lv.length cO) ∧ w'.cell? ⟨ob, 1, none⟩ = some (.pointer xO) ∧ w'.cell? ⟨ob, 2, none⟩ = some (.slice aO2 bsO.length cO2) ∧ (∃ u, w'.cell? ⟨g, q, none⟩ = some u) ∧ w'.frozen? ⟨g, q, none⟩ = false)
              (first
                | (refine HKS.out _ ?_; first | exact (Below.refl _ w3).drew | exact ((Below.refl _ w3).alloc (Nat.le_refl _) _).drew | exact ((Below.refl _ w3).alloc (Nat.le_refl _) _) | exact HB4.out | exact HB4.out.drew | exact HB4.out.alloc HB4.out.size _ | exact (HB4.out.alloc HB4.out.size _).drew)
                | (refine HKS2.out _ _ ?_; first | exact HB4.out.alloc HB4.out.size _ | exact (HB4.out.alloc HB4.out.size _).drew)
                | fail "keep")
              (first
                | (go_at_call 63; refine (HCAT.out _ _ (((Below.refl _ w3).alloc (Nat.le_refl _) _).drew) (MapKept.heap_alloc w3 _).1).mono ?_; rintro e w4 ⟨vv, rfl, hown4, hb4⟩; obtain ⟨av, cv, rfl⟩ := owns_slice hown4; have HB4 := Lib.hid hb4; have HOW4 := Lib.hid hown4; have gk4 : (w4.alloc (.cells #[.slice av NN cv, .pointer xO, .slice aO2 bsO.length cO2] 60)).cell? ⟨g, q, none⟩ = some (.pointer (some ⟨kb, 0, none⟩)) := cell_below (hb4.alloc hb4.size _) gk3; have gf4 : (w4.alloc (.cells #[.slice av NN cv, .pointer xO, .slice aO2 bsO.length cO2] 60)).frozen? ⟨g, q, none⟩ = false := (owns_below HOWN.out (HB3.out.trans ((hb4.alloc hb4.size _).mono hsz3))).frozenAt q; clear hown4 hb4)
                | fail "arm"))
          | fail "x"
        have hpg : p ≠ g := fun e => by have := HF.out p HO1.out.mem; have := HVW.out; omega
        obtain ⟨A4, hA4⟩ : ∃ A4, w4.alloc (.cells #[.slice av NN cv, .pointer xO, .slice aO2 bsO.length cO2] 60) = A4 := ⟨_, rfl⟩
        have hrow4 := HOW4.out
        rw [← HNN.out] at hrow4 hA4
        obtain ⟨m1, m2⟩ := merge_node HOO.out HB4.out hrow4 (Nat.le_refl _) hA4
        rw [HNN.out] at hA4
        have hbA : Below w1.heap.size w1 A4 := HB3.out.trans (m2.mono hsz3)
        have HM1 := Lib.hid (NodeAt.mono (since_since hsz3 m2.size) m1)
        have HBA := Lib.hid hbA
        rw [hA4]
        have z0' : (A4.setCell ⟨g, q, none⟩ (.pointer (some ⟨w4.heap.size, 0, none⟩))).cell? ⟨p, 0, none⟩ = some (.slice a1 t.lv.length c1) := (World.cell?_setCell_other _ _ _ _ (fun e => hpg (by injection e with e; exact e.symm))).trans (cell_below hbA HO1.out.c0)
        have z1' : (A4.setCell ⟨g, q, none⟩ (.pointer (some ⟨w4.heap.size, 0, none⟩))).cell? ⟨p, 1, none⟩ = some (.pointer x1) := (World.cell?_setCell_other _ _ _ _ (fun e => hpg (by injection e with e; exact e.symm))).trans (cell_below hbA HO1.out.c1)
        clear hbA m1 m2 hrow4 gk4 gf4 hA4
        go_wp2_with fail
        have z0 := regr_cell z0'
        have z2 := regr_cell z1'
        have hq4 : ∃ w6, A4.setCell ⟨g, q, none⟩ (.pointer (some ⟨w4.heap.size, 0, none⟩)) = w6 := ⟨_, rfl⟩
        obtain ⟨w6, hw4⟩ := hq4
        have HW4 := Lib.hid hw4
        rw [hw4] at z0 z2 ⊢
        clear z0' z1' hw4
        refine wp_region_norm_below [0, 1, 2, 4, 5, 6, 8] [3, 7] [] [9, 10, 11] [9, 10, 11] (by kernel_rfl) (by kernel_rfl) (fun _ _ d _ _ h => by cases d <;> exact h) ?_
        simp only [pick, List.filterMap_cons, List.filterMap_nil, List.getElem?_toArray, List.getElem?_cons_zero, List.getElem?_cons_succ]
        repeat (first | (with_reducible refine wpQuiet_nil ?_) | quiet_step (fail))
        intro V4 hV4
        change wpList _ _ _ _ _ V4
        have HV4 := Lib.hid hV4
        clear hV4 z0 z2
        go_wp2_with fail
        go_ret
        obtain ⟨f1, f2⟩ := put_fin (ty := 60) HF.out HB1.out HO1.out HVW.out HOWN.out HBA.out HM1.out HW4.out HV4.out rfl
        exact ⟨V4.heap.size, rfl, by simp only [HQ.out, HM0.out, HKE.out, HREP.out]; exact f1, f2⟩
end Go.Proofs.YtgnffkahlniehaaGreat
