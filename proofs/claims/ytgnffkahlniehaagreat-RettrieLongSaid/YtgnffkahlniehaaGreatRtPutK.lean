/- Proved here: put, where an edge begins alike: it is split or followed. -/
import Derived.Test.YtgnffkahlniehaaGreatRtPutP
namespace Go.Proofs.YtgnffkahlniehaaGreat
open Go Go.RowKit Go.Proofs.Gs Go.Proofs.Tri Go.Proofs.Rt Go.Proofs.Tp Go.Proofs.Rg

set_option maxHeartbeats 4000000 in
set_option maxRecDepth 100000 in
theorem put_kid {F : Nat → Prop} {w : World} {p : Nat} {t : Tree} (G : Good F w p t) (hF : ∀ x, F x → x < w.heap.size) {pv : Value} {x : ByteArray} {xs : List ByteArray} (hp : StrsAt w pv (x :: xs)) (hpl : (x :: xs).length ≤ 1000000001) {b : Nat} {m : MsgV} (hm : MsgAt F w b m) {k : Tree} (hk : kidAt ltB x t.kids = some k)
    (ih : ∀ (F' : Nat → Prop) (w' : World) (p' : Nat) (t' : Tree) (pv' : Value) (path' : List ByteArray), path'.length < (x :: xs).length → Good F' w' p' t' → (∀ x, F' x → x < w'.heap.size) → StrsAt w' pv' path' → MsgAt F' w' b m →
      Calls Tryz.prog 27 #[.pointer (some ⟨p', 0, none⟩), pv', .pointer (some ⟨b, 0, none⟩)] w' (PutPost F' w' (put ltB t' path' m))) :
    Calls Tryz.prog 27 #[.pointer (some ⟨p, 0, none⟩), pv, .pointer (some ⟨b, 0, none⟩)] w (PutPost F w (put ltB t (x :: xs) m)) := by
  rw [put_some hk]
  obtain ⟨sv, mv, kv, bs, O⟩ := G.node.open
  obtain ⟨kb, cb, off0, cap0, ys, rfl, hql, _, _, hkc, GK, hklv, hkll, hkm⟩ := Good.kid O G.forest G.lim hk
  have hbk : (bs.map ptrV)[place ltB x t.kids]? = some (.pointer (some ⟨kb, 0, none⟩)) := by
    rcases RowAt.cases O.hk with ⟨h8, _⟩ | ⟨_, g', off', cap', e, _, h9, h10, h11⟩
    · omega
    · injection e with e1 e2 e3
      injection e1 with e1
      injection e1 with e1 e4
      subst e1; subst e4; subst e3
      have h1 : (bs.map ptrV)[place ltB x t.kids]? = some (ptrV bs[place ltB x t.kids]) := by rw [List.getElem?_map, List.getElem?_eq_getElem hql]; rfl
      rw [h1, ← hkc, h11 _ _ h1]
  obtain ⟨a1, c1, x1, _, _, rfl, rfl, _⟩ := open_shapes O
  obtain ⟨b1, o1, cp, rfl, p1, p2, p3, p4⟩ := hp.open (by simp)
  have k1 := p4 0 x rfl
  rw [Nat.add_zero] at k1
  have kc := O.c2
  obtain ⟨n, hn⟩ : ∃ n, (x :: xs).length = n := ⟨_, rfl⟩
  have hn0 : 0 < n := by rw [← hn]; simp
  have hne : ((n : Int) == 0) = false := by rw [beq_eq_false_iff_ne]; omega
  have hb1 : (0 : Int) < (n : Int) := by omega
  have hso : (kidAt ltB x t.kids).isSome = true := by rw [hk]; rfl
  have HCG := Lib.hid (fun c => cut_good G.forest G.lim hk c)
  rw [hn] at hp p1 hpl ih
  have HSO := Lib.hid hso
  have HO := Lib.hid O
  have HG := Lib.hid G
  have HGK := Lib.hid GK
  have HKL := Lib.hid hklv
  have HM := Lib.hid hm
  have HP := Lib.hid hp
  have HN := Lib.hid hn
  have HIH := Lib.hid ih
  have HF := Lib.hid hF
  clear O G GK hm hp p4 hso hn ih hF hklv hkm hkc
  rw [HN.out]
  go_enter Tryz.func27, Tryz.ntmps27
  go_wp2_with fail
  go_quiet ((go_at_call 54; exact Calls.quiet_of_same (bsf_open HO.out HG.out.forest HG.out.lim x _)))
  rw [HSO.out]
  have hOV := HO.out.below (below_drew w nq)
  have HOV := Lib.hid hOV
  have HMV := Lib.hid (HM.out.below (below_drew w nq))
  have HPV := Lib.hid (HP.out.below (below_drew w nq))
  have HGKV := Lib.hid (HGK.out.below (below_drew w nq))
  have HVB := Lib.hid (below_drew w nq)
  obtain ⟨q, hq⟩ : ∃ q, place ltB x t.kids = q := ⟨_, rfl⟩
  have HQ := Lib.hid hq
  rw [hq] at hql hbk ⊢
  clear hq hOV k1 kc HO HM HP HGK
  generalize w.drewN nq = V at HOV HMV HPV HVB HGKV ⊢
  have kc := HOV.out.c2
  have hbn : bs.length ≤ 1000000 := by rw [HOV.out.hl]; exact HG.out.lim.kids HG.out.forest
  go_wp2_with fail
  refine (cloneN_any (w := V) HOV.out.hk (by omega) (ptr_one bs)).mono ?_
  rintro e w1 ⟨kv1, rfl, hown1, hb1'⟩
  have hVw := HVB.out.trans (hb1'.mono HVB.out.size)
  have HO1 := Lib.hid (HOV.out.below hb1')
  have HM1 := Lib.hid (HMV.out.below hb1')
  have HP1 := Lib.hid (HPV.out.below hb1')
  have HG1 := Lib.hid (HGKV.out.below hb1')
  have HB1 := Lib.hid hVw
  have HVS := Lib.hid hb1'.size
  have HVW := Lib.hid HVB.out.size
  obtain ⟨g, capg, rfl, hgV, hg1, hncg, hcmg, hgc⟩ : ∃ g cap, kv1 = .slice (some ⟨g, 0, none⟩) bs.length cap ∧ V.heap.size ≤ g ∧ g < w1.heap.size ∧ bs.length ≤ cap ∧ cap ≤ 9223372036854775807 ∧ ∀ j u, (bs.map ptrV)[j]? = some u → w1.cell? ⟨g, j, none⟩ = some u := by
    rcases hown1.2 with ⟨h0, h1⟩ | ⟨g, cap, cur, rfl, h1, h2, h3, h4, h5, h6⟩
    · omega
    · have h7 := RowAt.cases (RowAt.of_owns hown1)
      rcases h7 with ⟨h8, _⟩ | ⟨_, g', off', cap', e, _, h9, h10, h11⟩
      · omega
      · injection e with e1 e2 e3
        injection e1 with e1
        injection e1 with e1 e4
        subst e1; subst e4; subst e3
        exact ⟨g, cap, rfl, h1, h10, h3, h9, fun j u hu => by have := h11 j u hu; rwa [Nat.zero_add] at this⟩
  have HOWN := Lib.hid hown1
  have gk := hgc q _ hbk
  have HBK := Lib.hid hbk
  have hqi : (q : Int) < (bs.length : Int) := by omega
  clear hown1 hb1' kc HOV HMV HPV HVB hVw hgc HGKV hbk
  obtain ⟨sv2, mv2, kv2, bs2, O2⟩ := HG1.out.node.open
  obtain ⟨b3, o3, c3, rfl, r1, r2, r3, r4⟩ := Tp.StrsAt.open O2.hs (by rw [HKL.out]; simp)
  obtain ⟨_, _, x3, a4, c4, _, rfl, rfl⟩ := open_shapes O2
  have hcl := com_le k.lv (x :: xs)
  have hct := com_take k.lv (x :: xs)
  have hcn := com_next k.lv (x :: xs)
  have hc1 : 1 ≤ com k.lv (x :: xs) := by rw [HKL.out, com, if_pos rfl]; omega
  obtain ⟨C, hC⟩ : ∃ C, com k.lv (x :: xs) = C := ⟨_, rfl⟩
  obtain ⟨m0, hm0⟩ : ∃ m, k.lv.length = m := ⟨_, rfl⟩
  have HCE := Lib.hid hC
  have HDR := Lib.hid (show xs.drop (com k.lv (x :: xs) - 1) = (x :: xs).drop (com k.lv (x :: xs)) from by
    obtain ⟨c, hc⟩ : ∃ c, com k.lv (x :: xs) = c + 1 := ⟨com k.lv (x :: xs) - 1, by omega⟩
    rw [hc]; rfl)
  have HM0 := Lib.hid hm0
  rw [hC] at hcl hct hcn hc1 HDR ⊢
  rw [hm0, HN.out] at hcl
  rw [hm0] at hkll r1
  have hm00 : 0 < m0 := by omega
  have kc0 := O2.c0
  rw [hm0] at kc0
  obtain ⟨p1', p2', p3', p4'⟩ : n ≤ cp ∧ cp ≤ 9223372036854775807 ∧ True ∧ ∀ i y, (x :: xs)[i]? = some y → w1.cell? ⟨b1, o1 + i, none⟩ = some (.string y) := by
    obtain ⟨b1', o1', cp', e, s1, s2, s3, s4⟩ := HP1.out.open (by simp)
    injection e with e1 e2 e3
    injection e1 with e1
    injection e1 with e1 e4
    subst e1; subst e4; subst e3
    exact ⟨p1, s2, trivial, s4⟩
  have HP4 := Lib.hid p4'
  have HR4 := Lib.hid r4
  have HCT := Lib.hid hct
  have HCN := Lib.hid hcn
  have HO2 := Lib.hid O2
  clear p4' r4 hct hcn O2 hC hm0 r3 p3'
  go_wp2_with fail
  go_loopg [11] C (fun g s wr => ∃ j m : Nat, j + g = C ∧ s = .int .i64 (j : Nat) ∧ wr = w1.drewN m)
  case atStart => exact ⟨0, 0, by omega, rfl, rfl⟩
  case round =>
    obtain ⟨j, m', hj, rfl, rfl⟩ := hrel
    cases gk with
    | succ gk =>
      have hjn : j < n := by omega
      have hjm : j < m0 := by omega
      have hd : decide ((j : Int) < (n : Int)) = true := decide_eq_true (by omega)
      have hd2 : decide ((j : Int) < (m0 : Int)) = true := decide_eq_true (by omega)
      obtain ⟨z, g1⟩ : ∃ z, (x :: xs)[j]? = some z := ⟨_, List.getElem?_eq_getElem (show j < (x :: xs).length by have := HN.out; omega)⟩
      have g2 : k.lv[j]? = some z := by
        have h := congrArg (fun l => l[j]?) HCT.out
        simp only [List.getElem?_take, if_pos (show j < C by omega)] at h
        rw [h, g1]
      have k1 := HP4.out j _ g1
      have k2 := HR4.out j _ g2
      have hb2 : (0 : Int) ≤ (j : Int) := by omega
      have hb3 : (j : Int) < (n : Int) := by omega
      have hb4 : (j : Int) < (m0 : Int) := by omega
      have e1 : (z.toList == z.toList) = true := by simp
      clear g1 g2
      go_wp2_with fail
      go_quiet (fail)
      go_wp2_with fail
      go_roundg gk
      case measure => omega
      case rel => exact ⟨j + 1, _, by omega, by go_num, rfl⟩
    | zero =>
      have hCj : C = j := by omega
      subst hCj
      have hb2 : (0 : Int) ≤ (C : Int) := by omega
      by_cases hcm : C < m0
      · have hd2 : decide ((C : Int) < (m0 : Int)) = true := decide_eq_true (by omega)
        have hb4 : (C : Int) < (m0 : Int) := by omega
        by_cases hcn' : C < n
        · have hd : decide ((C : Int) < (n : Int)) = true := decide_eq_true (by omega)
          have hb3 : (C : Int) < (n : Int) := by omega
          obtain ⟨z1, g1⟩ : ∃ z, (x :: xs)[C]? = some z := ⟨_, List.getElem?_eq_getElem (show C < (x :: xs).length by have := HN.out; omega)⟩
          obtain ⟨z2, g2⟩ : ∃ z, k.lv[C]? = some z := ⟨_, List.getElem?_eq_getElem (show C < k.lv.length by have := HM0.out; omega)⟩
          have k1 := HP4.out C _ g1
          have k2 := HR4.out C _ g2
          have hne2 : z1.toList ≠ z2.toList := fun e => HCN.out z2 z1 g2 g1 (ba_ext (by rw [Lib.toList_data, Lib.toList_data] at e; exact e.symm))
          have e1 : (z1.toList == z2.toList) = false := by rw [beq_eq_false_iff_ne]; exact hne2
          have e2 : (z1.toList != z2.toList) = true := by rw [bne_iff_ne]; exact hne2
          clear g1 g2 hne2
          go_wp2_with fail
          go_quiet (fail)
          go_wp2_with fail
          have hW0 := below_drew w1 (m' + nq)
          generalize w1.drewN (m' + nq) = W0 at hW0 ⊢
          have OW := HO2.out.below hW0
          have y0 := regr_cell OW.c0
          have y1 := regr_cell OW.c1
          have y2 := regr_cell OW.c2
          rw [HM0.out] at y0
          have HOW := Lib.hid OW
          have HW0 := Lib.hid hW0
          have hbC1 : (C : Int) ≤ (c3 : Int) := by omega
          have hbC2 : (C : Int) ≤ (m0 : Int) := by omega
          have hbC3 : C ≤ c3 := by omega
          have hbC4 : C ≤ m0 := by omega
          have hbC5 : (m0 : Int) ≤ (c3 : Int) := by omega
          have hbC6 : ¬ c3 = C := by omega
          clear hW0 OW
          refine wp_region_norm_below [0, 1, 2, 4, 5, 7, 8, 9, 11, 13, 14, 15, 17, 18, 19] [3, 6, 10, 12, 16, 20, 21] [] [22, 23, 24, 25, 26] [24, 25, 26] (by kernel_rfl) (by kernel_rfl) (fun _ _ d _ _ h => by cases d <;> exact h) ?_
          simp only [pick, List.filterMap_cons, List.filterMap_nil, List.getElem?_toArray, List.getElem?_cons_zero, List.getElem?_cons_succ]
          repeat (first | (with_reducible refine wpQuiet_nil ?_) | quiet_step (fail))
          intro V2 hV2
          change wpList _ _ _ _ _ V2
          have HV2 := Lib.hid hV2
          clear hV2 y0 y1 y2
          go_wp2_with fail
          have OV2 := HOW.out.below HV2.out
          rw [HM0.out] at OV2
          obtain ⟨A1, hA1⟩ : ∃ A1, V2.alloc (.cells #[.slice (some ⟨b3, o3 + C, none⟩) (m0 - C) (c3 - C), .pointer x3, .slice a4 bs2.length c4] 60) = A1 := ⟨_, rfl⟩
          obtain ⟨A2, hA2⟩ : ∃ A2, A1.alloc (.cells #[.pointer (some ⟨V2.heap.size, 0, none⟩)] 56) = A2 := ⟨_, rfl⟩
          obtain ⟨W, hA3⟩ : ∃ A3, A2.alloc (.cells #[.slice (some ⟨b3, o3, none⟩) C C, .pointer none, .slice (some ⟨A1.heap.size, 0, none⟩) 1 1] 60) = A3 := ⟨_, rfl⟩
          have hB2 := HW0.out.size
          have hB3 := HV2.out.size
          obtain ⟨hn2, hV3, hs1, hs2, hs3⟩ := put_split (w1 := w1) OV2 hcm (by omega) hA1 hA2 hA3
          rw [hs1] at hA3
          rw [hA1, hA2] 
          rw [hA3]
          have hW : Below w1.heap.size w1 W := (HW0.out.trans (HV2.out.mono hB2)).trans (hV3.mono (by omega))
          have HPW : ∀ i y, (x :: xs)[i]? = some y → W.cell? ⟨b1, o1 + i, none⟩ = some (.string y) := fun i y h => cell_below hW (HP4.out i y h)
          have hgood : Good (Since F w1 W) W A2.heap.size (cutAt k C) := ⟨hn2, (HCG.out C).1, (HCG.out C).2⟩
          rw [show A2.heap.size = V2.heap.size + 1 + 1 by omega] at hgood
          have hbd : ∀ x, Since F w1 W x → x < W.heap.size := fun y h => h.elim (fun h => by have := HF.out y h; have := HVW.out; have := HVS.out; have := hW.size; omega) (fun h => h.2)
          refine (HIH.out (Since F w1 W) W (V2.heap.size + 1 + 1) (cutAt k C) _ ((x :: xs).drop C) (by rw [List.length_drop, HN.out]; omega) hgood hbd (StrsAt.drop C hcl.2 HN.out p1 p2 HPW _ (fun h => rfl)) ((HM1.out.below hW).mono since_old)).mono ?_
          rintro e w3 ⟨q', rfl, hn3, hb3⟩
          have HB3 := Lib.hid (hW.trans (hb3.mono hW.size))
          have HN3 := Lib.hid (NodeAt.mono (since_since hW.size hb3.size) hn3)
          have gk3 : w3.cell? ⟨g, q, none⟩ = some (.pointer (some ⟨kb, 0, none⟩)) := cell_below HB3.out gk
          have gf3 : w3.frozen? ⟨g, q, none⟩ = false := (owns_below HOWN.out HB3.out).frozenAt q
          have hpg : p ≠ g := fun e => by have := HF.out p HO1.out.mem; have := HVW.out; omega
          have z0' : (w3.setCell ⟨g, q, none⟩ (.pointer (some ⟨q', 0, none⟩))).cell? ⟨p, 0, none⟩ = some (.slice a1 t.lv.length c1) := (World.cell?_setCell_other _ _ _ _ (fun e => hpg (by injection e with e; exact e.symm))).trans (cell_below HB3.out HO1.out.c0)
          have z1' : (w3.setCell ⟨g, q, none⟩ (.pointer (some ⟨q', 0, none⟩))).cell? ⟨p, 1, none⟩ = some (.pointer x1) := (World.cell?_setCell_other _ _ _ _ (fun e => hpg (by injection e with e; exact e.symm))).trans (cell_below HB3.out HO1.out.c1)
          clear hW hb3 hn3
          go_wp2_with fail
          have z0 := regr_cell z0'
          have z2 := regr_cell z1'
          have hq4 : ∃ w4, w3.setCell ⟨g, q, none⟩ (.pointer (some ⟨q', 0, none⟩)) = w4 := ⟨_, rfl⟩
          obtain ⟨w4, hw4⟩ := hq4
          have HW4 := Lib.hid hw4
          rw [hw4] at z0 z2 ⊢
          clear z0' z1' gk3 gf3 hw4
          refine wp_region_norm_below [0, 1, 2, 4, 5, 6, 8] [3, 7] [] [9, 10, 11] [9, 10, 11] (by kernel_rfl) (by kernel_rfl) (fun _ _ d _ _ h => by cases d <;> exact h) ?_
          simp only [pick, List.filterMap_cons, List.filterMap_nil, List.getElem?_toArray, List.getElem?_cons_zero, List.getElem?_cons_succ]
          repeat (first | (with_reducible refine wpQuiet_nil ?_) | quiet_step (fail))
          intro V4 hV4
          change wpList _ _ _ _ _ V4
          have HV4 := Lib.hid hV4
          clear hV4 z0 z2
          go_wp2_with fail
          go_ret
          obtain ⟨f1, f2⟩ := put_fin (ty := 60) HF.out HB1.out HO1.out HVW.out HOWN.out HB3.out HN3.out HW4.out HV4.out rfl
          exact ⟨V4.heap.size, rfl, by simp only [HQ.out, HCE.out, HDR.out]; exact f1, f2⟩
        · have hd : decide ((C : Int) < (n : Int)) = false := decide_eq_false (by omega)
          go_wp2_with fail
          go_quiet (fail)
          go_wp2_with fail
          have hW0 := below_drew w1 (m' + nq)
          generalize w1.drewN (m' + nq) = W0 at hW0 ⊢
          have OW := HO2.out.below hW0
          have y0 := regr_cell OW.c0
          have y1 := regr_cell OW.c1
          have y2 := regr_cell OW.c2
          rw [HM0.out] at y0
          have HOW := Lib.hid OW
          have HW0 := Lib.hid hW0
          have hbC1 : (C : Int) ≤ (c3 : Int) := by omega
          have hbC2 : (C : Int) ≤ (m0 : Int) := by omega
          have hbC3 : C ≤ c3 := by omega
          have hbC4 : C ≤ m0 := by omega
          have hbC5 : (m0 : Int) ≤ (c3 : Int) := by omega
          have hbC6 : ¬ c3 = C := by omega
          clear hW0 OW
          refine wp_region_norm_below [0, 1, 2, 4, 5, 7, 8, 9, 11, 13, 14, 15, 17, 18, 19] [3, 6, 10, 12, 16, 20, 21] [] [22, 23, 24, 25, 26] [24, 25, 26] (by kernel_rfl) (by kernel_rfl) (fun _ _ d _ _ h => by cases d <;> exact h) ?_
          simp only [pick, List.filterMap_cons, List.filterMap_nil, List.getElem?_toArray, List.getElem?_cons_zero, List.getElem?_cons_succ]
          repeat (first | (with_reducible refine wpQuiet_nil ?_) | quiet_step (fail))
          intro V2 hV2
          change wpList _ _ _ _ _ V2
          have HV2 := Lib.hid hV2
          clear hV2 y0 y1 y2
          go_wp2_with fail
          case inl =>
            have OV2 := HOW.out.below HV2.out
            rw [HM0.out] at OV2
            obtain ⟨A1, hA1⟩ : ∃ A1, V2.alloc (.cells #[.slice (some ⟨b3, o3 + C, none⟩) (m0 - C) (c3 - C), .pointer x3, .slice a4 bs2.length c4] 60) = A1 := ⟨_, rfl⟩
            obtain ⟨A2, hA2⟩ : ∃ A2, A1.alloc (.cells #[.pointer (some ⟨V2.heap.size, 0, none⟩)] 56) = A2 := ⟨_, rfl⟩
            obtain ⟨W, hA3⟩ : ∃ A3, A2.alloc (.cells #[.slice (some ⟨b3, o3, none⟩) C C, .pointer none, .slice (some ⟨A1.heap.size, 0, none⟩) 1 1] 60) = A3 := ⟨_, rfl⟩
            have hB2 := HW0.out.size
            have hB3 := HV2.out.size
            obtain ⟨hn2, hV3, hs1, hs2, hs3⟩ := put_split (w1 := w1) OV2 hcm (by omega) hA1 hA2 hA3
            rw [hs1] at hA3
            rw [hA1, hA2] 
            rw [hA3]
            have hW : Below w1.heap.size w1 W := (HW0.out.trans (HV2.out.mono hB2)).trans (hV3.mono (by omega))
            have HPW : ∀ i y, (x :: xs)[i]? = some y → W.cell? ⟨b1, o1 + i, none⟩ = some (.string y) := fun i y h => cell_below hW (HP4.out i y h)
            have hgood : Good (Since F w1 W) W A2.heap.size (cutAt k C) := ⟨hn2, (HCG.out C).1, (HCG.out C).2⟩
            rw [show A2.heap.size = V2.heap.size + 1 + 1 by omega] at hgood
            have hbd : ∀ x, Since F w1 W x → x < W.heap.size := fun y h => h.elim (fun h => by have := HF.out y h; have := HVW.out; have := HVS.out; have := hW.size; omega) (fun h => h.2)
            refine (HIH.out (Since F w1 W) W (V2.heap.size + 1 + 1) (cutAt k C) _ ((x :: xs).drop C) (by rw [List.length_drop, HN.out]; omega) hgood hbd (by have h := StrsAt.drop C hcl.2 HN.out p1 p2 HPW (some ⟨b1, o1, none⟩) (fun h => by omega); rw [show cp - C = 0 by omega] at h; exact h) ((HM1.out.below hW).mono since_old)).mono ?_
            rintro e w3 ⟨q', rfl, hn3, hb3⟩
            have HB3 := Lib.hid (hW.trans (hb3.mono hW.size))
            have HN3 := Lib.hid (NodeAt.mono (since_since hW.size hb3.size) hn3)
            have gk3 : w3.cell? ⟨g, q, none⟩ = some (.pointer (some ⟨kb, 0, none⟩)) := cell_below HB3.out gk
            have gf3 : w3.frozen? ⟨g, q, none⟩ = false := (owns_below HOWN.out HB3.out).frozenAt q
            have hpg : p ≠ g := fun e => by have := HF.out p HO1.out.mem; have := HVW.out; omega
            have z0' : (w3.setCell ⟨g, q, none⟩ (.pointer (some ⟨q', 0, none⟩))).cell? ⟨p, 0, none⟩ = some (.slice a1 t.lv.length c1) := (World.cell?_setCell_other _ _ _ _ (fun e => hpg (by injection e with e; exact e.symm))).trans (cell_below HB3.out HO1.out.c0)
            have z1' : (w3.setCell ⟨g, q, none⟩ (.pointer (some ⟨q', 0, none⟩))).cell? ⟨p, 1, none⟩ = some (.pointer x1) := (World.cell?_setCell_other _ _ _ _ (fun e => hpg (by injection e with e; exact e.symm))).trans (cell_below HB3.out HO1.out.c1)
            clear hW hb3 hn3
            go_wp2_with fail
            have z0 := regr_cell z0'
            have z2 := regr_cell z1'
            have hq4 : ∃ w4, w3.setCell ⟨g, q, none⟩ (.pointer (some ⟨q', 0, none⟩)) = w4 := ⟨_, rfl⟩
            obtain ⟨w4, hw4⟩ := hq4
            have HW4 := Lib.hid hw4
            rw [hw4] at z0 z2 ⊢
            clear z0' z1' gk3 gf3 hw4
            refine wp_region_norm_below [0, 1, 2, 4, 5, 6, 8] [3, 7] [] [9, 10, 11] [9, 10, 11] (by kernel_rfl) (by kernel_rfl) (fun _ _ d _ _ h => by cases d <;> exact h) ?_
            simp only [pick, List.filterMap_cons, List.filterMap_nil, List.getElem?_toArray, List.getElem?_cons_zero, List.getElem?_cons_succ]
            repeat (first | (with_reducible refine wpQuiet_nil ?_) | quiet_step (fail))
            intro V4 hV4
            change wpList _ _ _ _ _ V4
            have HV4 := Lib.hid hV4
            clear hV4 z0 z2
            go_wp2_with fail
            go_ret
            obtain ⟨f1, f2⟩ := put_fin (ty := 60) HF.out HB1.out HO1.out HVW.out HOWN.out HB3.out HN3.out HW4.out HV4.out rfl
            exact ⟨V4.heap.size, rfl, by simp only [HQ.out, HCE.out, HDR.out]; exact f1, f2⟩
          case inr =>
            have OV2 := HOW.out.below HV2.out
            rw [HM0.out] at OV2
            obtain ⟨A1, hA1⟩ : ∃ A1, V2.alloc (.cells #[.slice (some ⟨b3, o3 + C, none⟩) (m0 - C) (c3 - C), .pointer x3, .slice a4 bs2.length c4] 60) = A1 := ⟨_, rfl⟩
            obtain ⟨A2, hA2⟩ : ∃ A2, A1.alloc (.cells #[.pointer (some ⟨V2.heap.size, 0, none⟩)] 56) = A2 := ⟨_, rfl⟩
            obtain ⟨W, hA3⟩ : ∃ A3, A2.alloc (.cells #[.slice (some ⟨b3, o3, none⟩) C C, .pointer none, .slice (some ⟨A1.heap.size, 0, none⟩) 1 1] 60) = A3 := ⟨_, rfl⟩
            have hB2 := HW0.out.size
            have hB3 := HV2.out.size
            obtain ⟨hn2, hV3, hs1, hs2, hs3⟩ := put_split (w1 := w1) OV2 hcm (by omega) hA1 hA2 hA3
            rw [hs1] at hA3
            rw [hA1, hA2] 
            rw [hA3]
            have hW : Below w1.heap.size w1 W := (HW0.out.trans (HV2.out.mono hB2)).trans (hV3.mono (by omega))
            have HPW : ∀ i y, (x :: xs)[i]? = some y → W.cell? ⟨b1, o1 + i, none⟩ = some (.string y) := fun i y h => cell_below hW (HP4.out i y h)
            have hgood : Good (Since F w1 W) W A2.heap.size (cutAt k C) := ⟨hn2, (HCG.out C).1, (HCG.out C).2⟩
            rw [show A2.heap.size = V2.heap.size + 1 + 1 by omega] at hgood
            have hbd : ∀ x, Since F w1 W x → x < W.heap.size := fun y h => h.elim (fun h => by have := HF.out y h; have := HVW.out; have := HVS.out; have := hW.size; omega) (fun h => h.2)
            refine (HIH.out (Since F w1 W) W (V2.heap.size + 1 + 1) (cutAt k C) _ ((x :: xs).drop C) (by rw [List.length_drop, HN.out]; omega) hgood hbd (StrsAt.drop C hcl.2 HN.out p1 p2 HPW _ (fun h => rfl)) ((HM1.out.below hW).mono since_old)).mono ?_
            rintro e w3 ⟨q', rfl, hn3, hb3⟩
            have HB3 := Lib.hid (hW.trans (hb3.mono hW.size))
            have HN3 := Lib.hid (NodeAt.mono (since_since hW.size hb3.size) hn3)
            have gk3 : w3.cell? ⟨g, q, none⟩ = some (.pointer (some ⟨kb, 0, none⟩)) := cell_below HB3.out gk
            have gf3 : w3.frozen? ⟨g, q, none⟩ = false := (owns_below HOWN.out HB3.out).frozenAt q
            have hpg : p ≠ g := fun e => by have := HF.out p HO1.out.mem; have := HVW.out; omega
            have z0' : (w3.setCell ⟨g, q, none⟩ (.pointer (some ⟨q', 0, none⟩))).cell? ⟨p, 0, none⟩ = some (.slice a1 t.lv.length c1) := (World.cell?_setCell_other _ _ _ _ (fun e => hpg (by injection e with e; exact e.symm))).trans (cell_below HB3.out HO1.out.c0)
            have z1' : (w3.setCell ⟨g, q, none⟩ (.pointer (some ⟨q', 0, none⟩))).cell? ⟨p, 1, none⟩ = some (.pointer x1) := (World.cell?_setCell_other _ _ _ _ (fun e => hpg (by injection e with e; exact e.symm))).trans (cell_below HB3.out HO1.out.c1)
            clear hW hb3 hn3
            go_wp2_with fail
            have z0 := regr_cell z0'
            have z2 := regr_cell z1'
            have hq4 : ∃ w4, w3.setCell ⟨g, q, none⟩ (.pointer (some ⟨q', 0, none⟩)) = w4 := ⟨_, rfl⟩
            obtain ⟨w4, hw4⟩ := hq4
            have HW4 := Lib.hid hw4
            rw [hw4] at z0 z2 ⊢
            clear z0' z1' gk3 gf3 hw4
            refine wp_region_norm_below [0, 1, 2, 4, 5, 6, 8] [3, 7] [] [9, 10, 11] [9, 10, 11] (by kernel_rfl) (by kernel_rfl) (fun _ _ d _ _ h => by cases d <;> exact h) ?_
            simp only [pick, List.filterMap_cons, List.filterMap_nil, List.getElem?_toArray, List.getElem?_cons_zero, List.getElem?_cons_succ]
            repeat (first | (with_reducible refine wpQuiet_nil ?_) | quiet_step (fail))
            intro V4 hV4
            change wpList _ _ _ _ _ V4
            have HV4 := Lib.hid hV4
            clear hV4 z0 z2
            go_wp2_with fail
            go_ret
            obtain ⟨f1, f2⟩ := put_fin (ty := 60) HF.out HB1.out HO1.out HVW.out HOWN.out HB3.out HN3.out HW4.out HV4.out rfl
            exact ⟨V4.heap.size, rfl, by simp only [HQ.out, HCE.out, HDR.out]; exact f1, f2⟩
      · have hd2 : decide ((C : Int) < (m0 : Int)) = false := decide_eq_false (by omega)
        by_cases hcn' : C < n
        · have hd : decide ((C : Int) < (n : Int)) = true := decide_eq_true (by omega)
          have hb3 : (C : Int) < (n : Int) := by omega
          go_wp2_with fail
          go_quiet (fail)
          go_wp2_with fail
          have hW := below_drew w1 (m' + nq)
          generalize w1.drewN (m' + nq) = W at hW ⊢
          have HPW : ∀ i y, (x :: xs)[i]? = some y → W.cell? ⟨b1, o1 + i, none⟩ = some (.string y) := fun i y h => cell_below hW (HP4.out i y h)
          have hcut : cutAt k C = k := by unfold cutAt; rw [if_neg (by have := HM0.out; omega)]
          have hgood : Good (Since F w1 W) W kb (cutAt k C) := ⟨by rw [hcut]; exact NodeAt.mono since_old (NodeAt.keep hW HG1.out.node), (HCG.out C).1, (HCG.out C).2⟩
          rw [hcut] at hgood
          have hbd : ∀ x, Since F w1 W x → x < W.heap.size := fun y h => h.elim (fun h => by have := HF.out y h; have := HVW.out; have := HVS.out; have := hW.size; omega) (fun h => h.2)
          refine (HIH.out (Since F w1 W) W kb k _ ((x :: xs).drop C) (by rw [List.length_drop, HN.out]; omega) hgood hbd (StrsAt.drop C hcl.2 HN.out p1 p2 HPW _ (fun h => rfl)) ((HM1.out.below hW).mono since_old)).mono ?_
          rintro e w3 ⟨q', rfl, hn3, hb3⟩
          rw [← hcut] at hn3
          have HB3 := Lib.hid (hW.trans (hb3.mono hW.size))
          have HN3 := Lib.hid (NodeAt.mono (since_since hW.size hb3.size) hn3)
          have gk3 : w3.cell? ⟨g, q, none⟩ = some (.pointer (some ⟨kb, 0, none⟩)) := cell_below HB3.out gk
          have gf3 : w3.frozen? ⟨g, q, none⟩ = false := (owns_below HOWN.out HB3.out).frozenAt q
          have hpg : p ≠ g := fun e => by have := HF.out p HO1.out.mem; have := HVW.out; omega
          have z0' : (w3.setCell ⟨g, q, none⟩ (.pointer (some ⟨q', 0, none⟩))).cell? ⟨p, 0, none⟩ = some (.slice a1 t.lv.length c1) := (World.cell?_setCell_other _ _ _ _ (fun e => hpg (by injection e with e; exact e.symm))).trans (cell_below HB3.out HO1.out.c0)
          have z1' : (w3.setCell ⟨g, q, none⟩ (.pointer (some ⟨q', 0, none⟩))).cell? ⟨p, 1, none⟩ = some (.pointer x1) := (World.cell?_setCell_other _ _ _ _ (fun e => hpg (by injection e with e; exact e.symm))).trans (cell_below HB3.out HO1.out.c1)
          clear hW hb3 hn3
          go_wp2_with fail
          have z0 := regr_cell z0'
          have z2 := regr_cell z1'
          have hq4 : ∃ w4, w3.setCell ⟨g, q, none⟩ (.pointer (some ⟨q', 0, none⟩)) = w4 := ⟨_, rfl⟩
          obtain ⟨w4, hw4⟩ := hq4
          have HW4 := Lib.hid hw4
          rw [hw4] at z0 z2 ⊢
          clear z0' z1' gk3 gf3 hw4
          refine wp_region_norm_below [0, 1, 2, 4, 5, 6, 8] [3, 7] [] [9, 10, 11] [9, 10, 11] (by kernel_rfl) (by kernel_rfl) (fun _ _ d _ _ h => by cases d <;> exact h) ?_
          simp only [pick, List.filterMap_cons, List.filterMap_nil, List.getElem?_toArray, List.getElem?_cons_zero, List.getElem?_cons_succ]
          repeat (first | (with_reducible refine wpQuiet_nil ?_) | quiet_step (fail))
          intro V4 hV4
          change wpList _ _ _ _ _ V4
          have HV4 := Lib.hid hV4
          clear hV4 z0 z2
          go_wp2_with fail
          go_ret
          obtain ⟨f1, f2⟩ := put_fin (ty := 60) HF.out HB1.out HO1.out HVW.out HOWN.out HB3.out HN3.out HW4.out HV4.out rfl
          exact ⟨V4.heap.size, rfl, by simp only [HQ.out, HCE.out, HDR.out]; exact f1, f2⟩
        · have hd : decide ((C : Int) < (n : Int)) = false := decide_eq_false (by omega)
          go_wp2_with fail
          go_quiet (fail)
          go_wp2_with fail
          case inl =>
            have hW := below_drew w1 (m' + nq)
            generalize w1.drewN (m' + nq) = W at hW ⊢
            have HPW : ∀ i y, (x :: xs)[i]? = some y → W.cell? ⟨b1, o1 + i, none⟩ = some (.string y) := fun i y h => cell_below hW (HP4.out i y h)
            have hcut : cutAt k C = k := by unfold cutAt; rw [if_neg (by have := HM0.out; omega)]
            have hgood : Good (Since F w1 W) W kb (cutAt k C) := ⟨by rw [hcut]; exact NodeAt.mono since_old (NodeAt.keep hW HG1.out.node), (HCG.out C).1, (HCG.out C).2⟩
            rw [hcut] at hgood
            have hbd : ∀ x, Since F w1 W x → x < W.heap.size := fun y h => h.elim (fun h => by have := HF.out y h; have := HVW.out; have := HVS.out; have := hW.size; omega) (fun h => h.2)
            refine (HIH.out (Since F w1 W) W kb k _ ((x :: xs).drop C) (by rw [List.length_drop, HN.out]; omega) hgood hbd (by have h := StrsAt.drop C hcl.2 HN.out p1 p2 HPW (some ⟨b1, o1, none⟩) (fun h => by omega); rw [show cp - C = 0 by omega] at h; exact h) ((HM1.out.below hW).mono since_old)).mono ?_
            rintro e w3 ⟨q', rfl, hn3, hb3⟩
            rw [← hcut] at hn3
            have HB3 := Lib.hid (hW.trans (hb3.mono hW.size))
            have HN3 := Lib.hid (NodeAt.mono (since_since hW.size hb3.size) hn3)
            have gk3 : w3.cell? ⟨g, q, none⟩ = some (.pointer (some ⟨kb, 0, none⟩)) := cell_below HB3.out gk
            have gf3 : w3.frozen? ⟨g, q, none⟩ = false := (owns_below HOWN.out HB3.out).frozenAt q
            have hpg : p ≠ g := fun e => by have := HF.out p HO1.out.mem; have := HVW.out; omega
            have z0' : (w3.setCell ⟨g, q, none⟩ (.pointer (some ⟨q', 0, none⟩))).cell? ⟨p, 0, none⟩ = some (.slice a1 t.lv.length c1) := (World.cell?_setCell_other _ _ _ _ (fun e => hpg (by injection e with e; exact e.symm))).trans (cell_below HB3.out HO1.out.c0)
            have z1' : (w3.setCell ⟨g, q, none⟩ (.pointer (some ⟨q', 0, none⟩))).cell? ⟨p, 1, none⟩ = some (.pointer x1) := (World.cell?_setCell_other _ _ _ _ (fun e => hpg (by injection e with e; exact e.symm))).trans (cell_below HB3.out HO1.out.c1)
            clear hW hb3 hn3
            go_wp2_with fail
            have z0 := regr_cell z0'
            have z2 := regr_cell z1'
            have hq4 : ∃ w4, w3.setCell ⟨g, q, none⟩ (.pointer (some ⟨q', 0, none⟩)) = w4 := ⟨_, rfl⟩
            obtain ⟨w4, hw4⟩ := hq4
            have HW4 := Lib.hid hw4
            rw [hw4] at z0 z2 ⊢
            clear z0' z1' gk3 gf3 hw4
            refine wp_region_norm_below [0, 1, 2, 4, 5, 6, 8] [3, 7] [] [9, 10, 11] [9, 10, 11] (by kernel_rfl) (by kernel_rfl) (fun _ _ d _ _ h => by cases d <;> exact h) ?_
            simp only [pick, List.filterMap_cons, List.filterMap_nil, List.getElem?_toArray, List.getElem?_cons_zero, List.getElem?_cons_succ]
            repeat (first | (with_reducible refine wpQuiet_nil ?_) | quiet_step (fail))
            intro V4 hV4
            change wpList _ _ _ _ _ V4
            have HV4 := Lib.hid hV4
            clear hV4 z0 z2
            go_wp2_with fail
            go_ret
            obtain ⟨f1, f2⟩ := put_fin (ty := 60) HF.out HB1.out HO1.out HVW.out HOWN.out HB3.out HN3.out HW4.out HV4.out rfl
            exact ⟨V4.heap.size, rfl, by simp only [HQ.out, HCE.out, HDR.out]; exact f1, f2⟩
          case inr =>
            have hW := below_drew w1 (m' + nq)
            generalize w1.drewN (m' + nq) = W at hW ⊢
            have HPW : ∀ i y, (x :: xs)[i]? = some y → W.cell? ⟨b1, o1 + i, none⟩ = some (.string y) := fun i y h => cell_below hW (HP4.out i y h)
            have hcut : cutAt k C = k := by unfold cutAt; rw [if_neg (by have := HM0.out; omega)]
            have hgood : Good (Since F w1 W) W kb (cutAt k C) := ⟨by rw [hcut]; exact NodeAt.mono since_old (NodeAt.keep hW HG1.out.node), (HCG.out C).1, (HCG.out C).2⟩
            rw [hcut] at hgood
            have hbd : ∀ x, Since F w1 W x → x < W.heap.size := fun y h => h.elim (fun h => by have := HF.out y h; have := HVW.out; have := HVS.out; have := hW.size; omega) (fun h => h.2)
            refine (HIH.out (Since F w1 W) W kb k _ ((x :: xs).drop C) (by rw [List.length_drop, HN.out]; omega) hgood hbd (StrsAt.drop C hcl.2 HN.out p1 p2 HPW _ (fun h => rfl)) ((HM1.out.below hW).mono since_old)).mono ?_
            rintro e w3 ⟨q', rfl, hn3, hb3⟩
            rw [← hcut] at hn3
            have HB3 := Lib.hid (hW.trans (hb3.mono hW.size))
            have HN3 := Lib.hid (NodeAt.mono (since_since hW.size hb3.size) hn3)
            have gk3 : w3.cell? ⟨g, q, none⟩ = some (.pointer (some ⟨kb, 0, none⟩)) := cell_below HB3.out gk
            have gf3 : w3.frozen? ⟨g, q, none⟩ = false := (owns_below HOWN.out HB3.out).frozenAt q
            have hpg : p ≠ g := fun e => by have := HF.out p HO1.out.mem; have := HVW.out; omega
            have z0' : (w3.setCell ⟨g, q, none⟩ (.pointer (some ⟨q', 0, none⟩))).cell? ⟨p, 0, none⟩ = some (.slice a1 t.lv.length c1) := (World.cell?_setCell_other _ _ _ _ (fun e => hpg (by injection e with e; exact e.symm))).trans (cell_below HB3.out HO1.out.c0)
            have z1' : (w3.setCell ⟨g, q, none⟩ (.pointer (some ⟨q', 0, none⟩))).cell? ⟨p, 1, none⟩ = some (.pointer x1) := (World.cell?_setCell_other _ _ _ _ (fun e => hpg (by injection e with e; exact e.symm))).trans (cell_below HB3.out HO1.out.c1)
            clear hW hb3 hn3
            go_wp2_with fail
            have z0 := regr_cell z0'
            have z2 := regr_cell z1'
            have hq4 : ∃ w4, w3.setCell ⟨g, q, none⟩ (.pointer (some ⟨q', 0, none⟩)) = w4 := ⟨_, rfl⟩
            obtain ⟨w4, hw4⟩ := hq4
            have HW4 := Lib.hid hw4
            rw [hw4] at z0 z2 ⊢
            clear z0' z1' gk3 gf3 hw4
            refine wp_region_norm_below [0, 1, 2, 4, 5, 6, 8] [3, 7] [] [9, 10, 11] [9, 10, 11] (by kernel_rfl) (by kernel_rfl) (fun _ _ d _ _ h => by cases d <;> exact h) ?_
            simp only [pick, List.filterMap_cons, List.filterMap_nil, List.getElem?_toArray, List.getElem?_cons_zero, List.getElem?_cons_succ]
            repeat (first | (with_reducible refine wpQuiet_nil ?_) | quiet_step (fail))
            intro V4 hV4
            change wpList _ _ _ _ _ V4
            have HV4 := Lib.hid hV4
            clear hV4 z0 z2
            go_wp2_with fail
            go_ret
            obtain ⟨f1, f2⟩ := put_fin (ty := 60) HF.out HB1.out HO1.out HVW.out HOWN.out HB3.out HN3.out HW4.out HV4.out rfl
            exact ⟨V4.heap.size, rfl, by simp only [HQ.out, HCE.out, HDR.out]; exact f1, f2⟩
end Go.Proofs.YtgnffkahlniehaaGreat
