/- Proved here: Shape of a trie; the law's sameShape, of one shape told twice. -/
import Derived.Test.YtgnffkahlniehaaGreatRtShape
import Derived.Test.YtgnffkahlniehaaGreatRtTexts
namespace Go.Proofs.YtgnffkahlniehaaGreat
open Go Go.RowKit Go.Proofs.Gs Go.Proofs.Tri Go.Proofs.Rt Go.Proofs.Tp Go.Proofs.Rg

set_option maxHeartbeats 1000000 in
set_option maxRecDepth 100000 in
theorem tshape_any {F : Nat → Prop} {w : World} {tb : Nat} {t : Tree} (T : TrieAt F w tb t) (hlv : t.lv.length ≤ 1000000001) :
    Calls Tryz.prog 45 #[.pointer (some ⟨tb, 0, none⟩)] w fun e w' => ∃ sv ev kv, e = .returned (.agg #[sv, .bool t.val.isSome, ev, kv]) ∧ ShAt (Fresh w w') w' (sv, ev, kv) (shOf t) ∧ Below w.heap.size w w' := by
  obtain ⟨p, hp, hn⟩ := T.root
  have hb0 : Below w.heap.size w (w.alloc (.cells #[.slice none 0 0, .bool false, .slice none 0 0, .slice none 0 0] 88)) := (Below.refl _ _).alloc (Nat.le_refl _) _
  have hs0 : (w.alloc (.cells #[.slice none 0 0, .bool false, .slice none 0 0, .slice none 0 0] 88)).heap.size = w.heap.size + 1 := by simp
  have g0 := (MapKept.heap_alloc w (.cells #[.slice none 0 0, .bool false, .slice none 0 0, .slice none 0 0] 88)).1
  have HC := Lib.hid (shape_any t F (w.alloc (.cells #[.slice none 0 0, .bool false, .slice none 0 0, .slice none 0 0] 88)) p (NodeAt.keep hb0 hn) T.forest T.lim hlv)
  have d0 := cell_below hb0 hp
  clear T hn hp
  go_enter Tryz.func45, Tryz.ntmps45
  go_wp2_with fail
  generalize w.alloc (.cells #[.slice none 0 0, .bool false, .slice none 0 0, .slice none 0 0] 88) = W0 at hb0 hs0 g0 HC d0 ⊢
  go_wp2_with fail
  refine HC.out.mono ?_
  rintro e w' ⟨sv, ev, kv, rfl, h1, h2⟩
  obtain ⟨b1, n1, c1, b2, n2, c2, b3, n3, c3, he⟩ := h1.slices
  injection he with he1 he2
  injection he2 with he2 he3
  subst he1; subst he2; subst he3
  have gw := (h2.block w.heap.size (by omega)).trans g0
  have y0 := cell4 gw 0 _ rfl
  have y1 := cell4 gw 1 _ rfl
  have y2 := cell4 gw 2 _ rfl
  have y3 := cell4 gw 3 _ rfl
  have yf := fun j => frozen_of_row w' w.heap.size j _ _ gw
  have H1 := Lib.hid h1
  have H2 := Lib.hid h2
  clear h1 h2
  go_wp2_with fail
  obtain ⟨W4, hW4⟩ : ∃ W4, (((w'.setCell ⟨w.heap.size, 0, none⟩ (.slice b1 n1 c1)).setCell ⟨w.heap.size, 1, none⟩ (.bool t.val.isSome)).setCell ⟨w.heap.size, 2, none⟩ (.slice b2 n2 c2)).setCell ⟨w.heap.size, 3, none⟩ (.slice b3 n3 c3) = W4 := ⟨_, rfl⟩
  obtain ⟨g4, b4, s4⟩ := set4 gw hW4
  have o4 : ∀ k, k ≠ w.heap.size → W4.heap[k]? = w'.heap[k]? := fun k hk => by
    rw [← hW4]
    exact (heap_setCell_other _ _ _ _ hk).trans ((heap_setCell_other _ _ _ _ hk).trans ((heap_setCell_other _ _ _ _ hk).trans (heap_setCell_other _ _ _ _ hk)))
  rw [hW4]
  clear hW4 y0 y1 y2 y3
  have z0 := cell4 g4 0 _ rfl
  have z1 := cell4 g4 1 _ rfl
  have z2 := cell4 g4 2 _ rfl
  have z3 := cell4 g4 3 _ rfl
  refine bodyPost_ret (v := .agg #[.slice b1 n1 c1, .bool t.val.isSome, .slice b2 n2 c2, .slice b3 n3 c3]) (by simp [results, Tryz.results45, go_sem, z0, z1, z2, z3]) rfl ?_
  have hs := H2.out.size
  exact ⟨_, _, _, rfl, (H1.out.keep (fun k hk hF => o4 k (by have := hF.1; omega))).mono (fun x hx => ⟨by have := hx.1; omega, by have := hx.2; omega⟩), (hb0.trans (H2.out.mono (by omega))).trans (b4 _ (Nat.le_refl _))⟩

set_option maxHeartbeats 4000000 in
set_option maxRecDepth 100000 in
theorem sameSh_any : ∀ (s : Sh) (F1 F2 : Nat → Prop) (w : World) (s1 e1 k1 s2 e2 k2 : Value), ShAt F1 w (s1, e1, k1) s → ShAt F2 w (s2, e2, k2) s → Bare s → Small 1000000001 s →
    Calls Tryz.prog 44 #[.agg #[s1, .bool s.here, e1, k1], .agg #[s2, .bool s.here, e2, k2]] w fun e w' => e = .returned (.bool true) ∧ Below w.heap.size w w' := by
  refine Sh.ind (fun lv here es ks ih => ?_)
  intro F1 F2 w s1 e1 k1 s2 e2 k2 h1 h2 hb hsm
  show Calls Tryz.prog 44 #[.agg #[s1, .bool here, e1, k1], .agg #[s2, .bool here, e2, k2]] w _
  have hes : es = [] := by cases hb; rfl
  subst hes
  have hbk : ∀ k ∈ ks, Bare k := by cases hb; assumption
  have hsk : ∀ k ∈ ks, Small 1000000001 k := by cases hsm; assumption
  have hlv : lv.length ≤ 1000000001 := by cases hsm; assumption
  have hkl : ks.length ≤ 1000000001 := by cases hsm; assumption
  obtain ⟨rs1, hs1, he1, hl1, hk1, hn1⟩ : ∃ rs1 : List Sl3, StrsF F1 w s1 lv ∧ EntsF F1 w e1 [] ∧ rs1.length = ks.length ∧ RowF F1 w 4 k1 rs1.length (shCells rs1 ks) ∧ ∀ (i : Nat) (r : Sl3) (k : Sh), rs1[i]? = some r → ks[i]? = some k → ShAt F1 w r k := by cases h1; exact ⟨_, by assumption, by assumption, by assumption, by assumption, by assumption⟩
  obtain ⟨rs2, hs2, he2, hl2, hk2, hn2⟩ : ∃ rs2 : List Sl3, StrsF F2 w s2 lv ∧ EntsF F2 w e2 [] ∧ rs2.length = ks.length ∧ RowF F2 w 4 k2 rs2.length (shCells rs2 ks) ∧ ∀ (i : Nat) (r : Sl3) (k : Sh), rs2[i]? = some r → ks[i]? = some k → ShAt F2 w r k := by cases h2; exact ⟨_, by assumption, by assumption, by assumption, by assumption, by assumption⟩
  clear h1 h2 hb hsm
  have hcall : ∀ (i : Nat) (r1 r2 : Sl3) (k : Sh), rs1[i]? = some r1 → rs2[i]? = some r2 → ks[i]? = some k → ∀ W, Below w.heap.size w W →
      Calls Tryz.prog 44 #[.agg #[r1.1, .bool k.here, r1.2.1, r1.2.2], .agg #[r2.1, .bool k.here, r2.2.1, r2.2.2]] W fun e w' => e = .returned (.bool true) ∧ Below W.heap.size W w' := fun i r1 r2 k g1 g2 g3 W hW => by
    have hm := List.mem_of_getElem? g3
    exact ih k hm F1 F2 W _ _ _ _ _ _ ((hn1 i r1 k g1 g3).keep (Same.below hW)) ((hn2 i r2 k g2 g3).keep (Same.below hW)) (hbk k hm) (hsk k hm)
  obtain ⟨n, hn⟩ : ∃ n, ks.length = n := ⟨_, rfl⟩
  rw [hl1, hn] at hk1
  rw [hl2, hn] at hk2
  obtain ⟨⟨_, a1, c1, rfl, _⟩, _⟩ := id hs1
  obtain ⟨⟨_, a2, c2, rfl, _⟩, _⟩ := id hs2
  obtain ⟨a3, c3, rfl⟩ : ∃ a c, e1 = .slice a 0 c := by obtain ⟨⟨_, a, c, h, _⟩, _⟩ := he1; exact ⟨a, c, h⟩
  obtain ⟨a4, c4, rfl⟩ : ∃ a c, e2 = .slice a 0 c := by obtain ⟨⟨_, a, c, h, _⟩, _⟩ := he2; exact ⟨a, c, h⟩
  obtain ⟨⟨_, a5, c5, rfl, _⟩, _⟩ := id hk1
  obtain ⟨⟨_, a6, c6, rfl, _⟩, _⟩ := id hk2
  have HS1 := Lib.hid hs1
  have HS2 := Lib.hid hs2
  have HK1 := Lib.hid hk1
  have HK2 := Lib.hid hk2
  have HC := Lib.hid hcall
  have HL1 := Lib.hid hl1
  have HL2 := Lib.hid hl2
  have HN := Lib.hid hn
  rw [hn] at hkl
  clear ih hs1 hs2 he1 he2 hk1 hk2 hcall hl1 hl2 hn1 hn2 hbk hsk hn
  obtain ⟨W0, hW0⟩ : ∃ W0, (w.alloc (.cells #[.slice a1 lv.length c1, .bool here, .slice a3 0 c3, .slice a5 n c5] 88)).alloc (.cells #[.slice a2 lv.length c2, .bool here, .slice a4 0 c4, .slice a6 n c6] 88) = W0 := ⟨_, rfl⟩
  obtain ⟨hb0, hs0, g0, g1⟩ := two_rows hW0
  have z0 := cell4 g0 0 _ rfl
  have z1 := cell4 g0 1 _ rfl
  have z2 := cell4 g0 2 _ rfl
  have z3 := cell4 g0 3 _ rfl
  have y0 := cell4 g1 0 _ rfl
  have y1 := cell4 g1 1 _ rfl
  have y2 := cell4 g1 2 _ rfl
  have y3 := cell4 g1 3 _ rfl
  have hhh : (here != here) = false := by cases here <;> rfl
  have hnn : ((n : Int) != (n : Int)) = false := by simp
  go_enter Tryz.func44, Tryz.ntmps44
  go_wp2_with fail
  try rw [hW0]
  refine (sameTexts_any (HS1.out.strs.below hb0) (HS2.out.strs.below hb0) hlv).mono ?_
  rintro e W1 ⟨rfl, m, rfl⟩
  have hdt : decide (lv = lv) = true := decide_eq_true rfl
  rw [hdt]
  clear hdt
  go_wp2_with fail
  go_loopg [5] n (fun gg i5 wr => ∃ j : Nat, j + gg = n ∧ i5 = .int .i64 (j : Nat) ∧ Below W0.heap.size W0 wr)
  case atStart => exact ⟨0, by omega, rfl, below_drew W0 m⟩
  case round =>
    obtain ⟨j, hj, rfl, hbw⟩ := hrel
    have HBW := Lib.hid hbw
    have x3 := cell_below hbw z3
    have v3 := cell_below hbw y3
    clear z0 z1 z2 z3 y0 y1 y2 y3 hbw
    cases gk with
    | zero =>
      obtain rfl : j = n := by omega
      have hd : decide ((j : Int) < (j : Int)) = false := decide_eq_false (by omega)
      go_wp2_with fail
      go_ret
      exact ⟨rfl, hb0.trans (HBW.out.mono hb0.size)⟩
    | succ gk =>
      have hjn : j < n := by omega
      have hd : decide ((j : Int) < (n : Int)) = true := decide_eq_true (by omega)
      have hb1 : (0 : Int) ≤ (j : Int) := by omega
      have hb2 : (j : Int) < (n : Int) := by omega
      obtain ⟨k, g3⟩ : ∃ k, ks[j]? = some k := ⟨_, List.getElem?_eq_getElem (show j < ks.length by have := HN.out; omega)⟩
      obtain ⟨r1, g4⟩ : ∃ r, rs1[j]? = some r := ⟨_, List.getElem?_eq_getElem (show j < rs1.length by have := HN.out; have := HL1.out; omega)⟩
      obtain ⟨r2, g5⟩ : ∃ r, rs2[j]? = some r := ⟨_, List.getElem?_eq_getElem (show j < rs2.length by have := HN.out; have := HL2.out; omega)⟩
      have hbx : Below w.heap.size w wr := hb0.trans (HBW.out.mono hb0.size)
      obtain ⟨cb1, of1, rfl, hn1, hm1, hc1⟩ : ∃ cb off, a5 = some ⟨cb, off, none⟩ ∧ n ≤ c5 ∧ c5 ≤ 9223372036854775807 ∧ ∀ i u, (shCells rs1 ks)[i]? = some u → w.cell? ⟨cb, off + i, none⟩ = some u := by
        rcases RowAt.cases HK1.out.1 with ⟨h8, _⟩ | ⟨_, cb, off, cap, e, q1, q2, _, h⟩
        · omega
        · injection e with e1 e2 e3
          subst e3
          exact ⟨cb, off, e1, q1, q2, h⟩
      obtain ⟨cb2, of2, rfl, hn2, hm2, hc2⟩ : ∃ cb off, a6 = some ⟨cb, off, none⟩ ∧ n ≤ c6 ∧ c6 ≤ 9223372036854775807 ∧ ∀ i u, (shCells rs2 ks)[i]? = some u → w.cell? ⟨cb, off + i, none⟩ = some u := by
        rcases RowAt.cases HK2.out.1 with ⟨h8, _⟩ | ⟨_, cb, off, cap, e, q1, q2, _, h⟩
        · omega
        · injection e with e1 e2 e3
          subst e3
          exact ⟨cb, off, e1, q1, q2, h⟩
      have p0 := cell_below hbx (hc1 _ _ (shCells_get (o := 0) g4 g3 rfl))
      have p1 := cell_below hbx (hc1 _ _ (shCells_get (o := 1) g4 g3 rfl))
      have p2 := cell_below hbx (hc1 _ _ (shCells_get (o := 2) g4 g3 rfl))
      have p3 := cell_below hbx (hc1 _ _ (shCells_get (o := 3) g4 g3 rfl))
      have q0 := cell_below hbx (hc2 _ _ (shCells_get (o := 0) g5 g3 rfl))
      have q1 := cell_below hbx (hc2 _ _ (shCells_get (o := 1) g5 g3 rfl))
      have q2 := cell_below hbx (hc2 _ _ (shCells_get (o := 2) g5 g3 rfl))
      have q3 := cell_below hbx (hc2 _ _ (shCells_get (o := 3) g5 g3 rfl))
      rw [Nat.add_zero] at p0 q0
      rw [← Nat.add_assoc] at p1 p2 p3 q1 q2 q3
      have HCALL := Lib.hid (HC.out j r1 r2 k g4 g5 g3)
      have HBX := Lib.hid hbx
      have w0 := regr_cell p0
      have w1 := regr_cell p1
      have w2 := regr_cell p2
      have w3 := regr_cell p3
      have u0 := regr_cell q0
      have u1 := regr_cell q1
      have u2 := regr_cell q2
      have u3 := regr_cell q3
      have t1 := regr_cell x3
      have t2 := regr_cell v3
      clear hc1 hc2 g3 g4 g5 hbx
      go_wp2_with fail
      refine wp_region_norm_below [0, 2, 5, 7] [1, 3, 4, 6, 8, 9] [] [10, 11] [10, 11] (by kernel_rfl) (by kernel_rfl) (fun _ _ d _ _ h => by cases d <;> exact h) ?_
      simp only [pick, List.filterMap_cons, List.filterMap_nil, List.getElem?_toArray, List.getElem?_cons_zero, List.getElem?_cons_succ]
      repeat (first | (with_reducible refine wpQuiet_nil ?_) | quiet_step (fail))
      intro V hV
      change wpList _ _ _ _ _ V
      have HV := Lib.hid hV
      clear hV w0 w1 w2 w3 u0 u1 u2 u3 t1 t2 p0 p1 p2 p3 q0 q1 q2 q3
      go_wp2_with fail
      refine (HCALL.out _ (HBX.out.trans (HV.out.mono HBX.out.size))).mono ?_
      rintro e W2 ⟨rfl, hb2'⟩
      have HB2 := Lib.hid hb2'
      clear hb2'
      go_wp2_with fail
      go_roundg gk
      case measure => omega
      case rel => exact ⟨j + 1, by omega, by go_num, (HBW.out.trans (HV.out.mono HBW.out.size)).trans (HB2.out.mono (by have := HBW.out.size; have := HV.out.size; omega))⟩
end Go.Proofs.YtgnffkahlniehaaGreat
