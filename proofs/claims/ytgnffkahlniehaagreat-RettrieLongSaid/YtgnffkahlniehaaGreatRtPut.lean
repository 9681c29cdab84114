/- Proved here: put, a message laid down at a path from a node on. -/
import Derived.Test.YtgnffkahlniehaaGreatRtBase
import Derived.Test.YtgnffkahlniehaaGreatRgNorm
import Derived.Test.YtgnffkahlniehaaGreatGsAll
import Derived.BigRegion
import Derived.Deep.RegionHeld3
import Derived.Carry
namespace Go.Proofs.YtgnffkahlniehaaGreat
open Go Go.RowKit Go.Proofs.Gs Go.Proofs.Tri Go.Proofs.Rt Go.Proofs.Tp Go.Proofs.Rg

/-- What was there, and what has been made since. -/
def Since (F : Nat → Prop) (w w' : World) : Nat → Prop := fun x => F x ∨ (w.heap.size ≤ x ∧ x < w'.heap.size)
theorem Since.old {F : Nat → Prop} {w w' : World} {x : Nat} (h : F x) : Since F w w' x := .inl h
theorem Since.new {F : Nat → Prop} {w w' : World} {x : Nat} (h1 : w.heap.size ≤ x) (h2 : x < w'.heap.size) : Since F w w' x := .inr ⟨h1, h2⟩

/-- What a laying hands back. -/
def PutPost (F : Nat → Prop) (w : World) (t' : Tree) (e : Ending) (w' : World) : Prop := ∃ q, e = .returned (.pointer (some ⟨q, 0, none⟩)) ∧ NodeAt (Since F w w') w' q t' ∧ Below w.heap.size w w'

theorem RowF.of_owns {F : Nat → Prop} {w : World} {B e k n : Nat} {v : Value} {xs : List Value} (h : w.ownsRow B e k v n xs) (hF : ∀ g, B ≤ g → g < w.heap.size → F g) : RowF F w k v n xs :=
  ⟨RowAt.of_owns h, fun g e => hF g (h.lt g e).1 (h.lt g e).2⟩
theorem rowF_nil (F : Nat → Prop) (w : World) (k : Nat) : RowF F w k (.slice none 0 0) 0 [] := ⟨RowAt.nil w k, fun b e => by simp [Value.ownBlock] at e⟩

theorem open_shapes {F : Nat → Prop} {w : World} {p : Nat} {t : Tree} {sv mv kv : Value} {bs : List Nat} (O : Rt.Open F w p t sv mv kv bs) : ∃ a1 c1 x a2 c2, sv = .slice a1 t.lv.length c1 ∧ mv = .pointer x ∧ kv = .slice a2 bs.length c2 := by
  obtain ⟨a1, c1, h1, _⟩ := O.hs
  obtain ⟨_, a2, c2, h2, _⟩ := O.hk
  have hm := O.hm
  cases hv : t.val with
  | none => rw [hv] at hm; exact ⟨a1, c1, none, a2, c2, h1, hm, h2⟩
  | some m => rw [hv] at hm; obtain ⟨b, e, _⟩ := hm; exact ⟨a1, c1, _, a2, c2, h1, e, h2⟩

theorem ptr_one (bs : List Nat) : ∀ u ∈ bs.map ptrV, u.oneCell' = true := by
  intro u hu
  obtain ⟨b, _, rfl⟩ := List.mem_map.1 hu
  rfl

theorem str_one (L : List ByteArray) : ∀ u ∈ L.map Value.string, u.oneCell' = true := by
  intro u hu
  obtain ⟨b, _, rfl⟩ := List.mem_map.1 hu
  rfl

set_option maxHeartbeats 2000000 in
set_option maxRecDepth 100000 in
theorem put_end {F : Nat → Prop} {w : World} {p : Nat} {t : Tree} (G : Good F w p t) {pv : Value} (hp : StrsAt w pv []) {b : Nat} {m : MsgV} (hm : MsgAt F w b m) :
    Calls Tryz.prog 27 #[.pointer (some ⟨p, 0, none⟩), pv, .pointer (some ⟨b, 0, none⟩)] w (PutPost F w (put ltB t [] m)) := by
  rw [put_nil]
  obtain ⟨sv, mv, kv, bs, O⟩ := G.node.open
  obtain ⟨a, cap, rfl⟩ := hp.open_nil
  obtain ⟨a1, c1, x1, a2, c2', rfl, rfl, rfl⟩ := open_shapes O
  have c0 := O.c0
  have c2 := O.c2
  have HO := Lib.hid O
  have HM := Lib.hid hm
  clear O G hp hm
  go_enter Tryz.func27, Tryz.ntmps27
  go_wp2_with fail
  have z0 := regr_cell c0
  have z2 := regr_cell c2
  refine wp_region_norm_below [0, 1, 2, 4, 5, 6, 7] [3, 8] [] [9, 10, 11] [9, 10, 11] (by kernel_rfl) (by kernel_rfl) (fun _ _ d _ _ h => by cases d <;> exact h) ?_
  simp only [pick, List.filterMap_cons, List.filterMap_nil, List.getElem?_toArray, List.getElem?_cons_zero, List.getElem?_cons_succ]
  repeat (first | (with_reducible refine wpQuiet_nil ?_) | quiet_step (fail))
  intro V hV
  change wpList _ _ _ _ _ V
  have HV := Lib.hid hV
  have HO2 := Lib.hid (HO.out.below hV)
  have HM2 := Lib.hid (HM.out.below hV)
  clear hV z0 z2 c0 c2
  go_wp2_with fail
  go_ret
  have hvs := HV.out.size
  obtain ⟨h1, h2, h3⟩ := node_new (F := fun x => F x ∨ x = V.heap.size) (w := V) (t := Tr.node t.lv (some m) t.kids) (mv := .pointer (some ⟨b, 0, none⟩)) (bs := bs) (ty := 60) rfl (.inr rfl) (RowF.mono HO2.out.hsf (fun _ h => .inl h)) ⟨b, rfl, HM2.out.mono (fun _ h => .inl h)⟩ (HO2.out.hkf.mono (fun _ h => .inl h)) HO2.out.hl (fun i b k e1 e2 => NodeAt.mono (fun _ h => .inl h) (HO2.out.hn i b k e1 e2))
  refine ⟨V.heap.size, rfl, NodeAt.mono (fun x h => ?_) h1, HV.out.trans (h2.mono HV.out.size)⟩
  rcases h with h | rfl
  · exact .inl h
  · exact .inr ⟨hvs, by rw [h3]; omega⟩

/-- The edges with a new one among them. -/
theorem kids_ins {F : Nat → Prop} {w' : World} {bs : List Nat} {ks : List Tree} {kv : Value} {B E i nb : Nat} {k : Tree} (hl : bs.length = ks.length) (hi : i ≤ bs.length) (hn : ∀ (i b : Nat) (k : Tree), bs[i]? = some b → ks[i]? = some k → NodeAt F w' b k) (hk : NodeAt F w' nb k)
    (hown : w'.ownsRow B E 1 kv (bs.length + 1) ((bs.map ptrV).take (i * 1) ++ [ptrV nb] ++ (bs.map ptrV).drop (i * 1))) (hF : ∀ g, B ≤ g → g < w'.heap.size → F g) :
    RowF F w' 1 kv (bs.take i ++ nb :: bs.drop i).length ((bs.take i ++ nb :: bs.drop i).map ptrV) ∧ (bs.take i ++ nb :: bs.drop i).length = (ks.take i ++ k :: ks.drop i).length ∧
      ∀ (j b : Nat) (k' : Tree), (bs.take i ++ nb :: bs.drop i)[j]? = some b → (ks.take i ++ k :: ks.drop i)[j]? = some k' → NodeAt F w' b k' := by
  have h1 := RowF.of_owns hown hF
  have e : (bs.take i ++ nb :: bs.drop i).map ptrV = (bs.map ptrV).take (i * 1) ++ [ptrV nb] ++ (bs.map ptrV).drop (i * 1) := by
    rw [Nat.mul_one, List.map_append, List.map_cons, List.map_take, List.map_drop]; simp
  have el : (bs.take i ++ nb :: bs.drop i).length = bs.length + 1 := by simp; omega
  refine ⟨by rw [el, e]; exact h1, by simp; omega, fun j b k' hb hk' => ?_⟩
  have l1 : (bs.take i).length = i := by rw [List.length_take]; omega
  have l2 : (ks.take i).length = i := by rw [List.length_take]; omega
  by_cases hj : j < i
  · rw [List.getElem?_append_left (by omega), List.getElem?_take, if_pos hj] at hb hk'
    exact hn j b k' hb hk'
  · rw [List.getElem?_append_right (by omega), l1] at hb
    rw [List.getElem?_append_right (by omega), l2] at hk'
    cases hd : j - i with
    | zero => rw [hd] at hb hk'; simp at hb hk'; subst hb; subst hk'; exact hk
    | succ d =>
      rw [hd] at hb hk'
      rw [List.getElem?_cons_succ, List.getElem?_drop] at hb hk'
      exact hn _ b k' hb hk'

theorem owns_slice {w : World} {B E k n : Nat} {v : Value} {xs : List Value} (h : w.ownsRow B E k v n xs) : ∃ a c, v = .slice a n c := by
  rcases h.2 with ⟨rfl, rfl⟩ | ⟨g, cap, cur, rfl, _⟩
  · exact ⟨none, 0, rfl⟩
  · exact ⟨_, cap, rfl⟩

theorem owns_below {w w' : World} {B E k n : Nat} {v : Value} {xs : List Value} (h : w.ownsRow B E k v n xs) (hb : Below w.heap.size w w') : w'.ownsRow B E k v n xs := by
  refine ⟨h.1, ?_⟩
  rcases h.2 with h0 | ⟨g, cap, cur, e, h1, h2, h3⟩
  · exact .inl h0
  · exact .inr ⟨g, cap, cur, e, h1, (hb.block g (Array.getElem?_eq_some_iff.1 h2).1).trans h2, h3⟩

theorem ins_ready {w2 : World} {B q : Nat} {kv : Value} {bs : List Nat} (hown : w2.ownsRow B 56 1 kv bs.length (bs.map ptrV)) (hB : B ≤ w2.heap.size) (hq : q ≤ bs.length) (hn : bs.length ≤ 1000000) (o : Obj) :
    Calls Tryz.prog 57 #[kv, .int .i64 q, .slice (some ⟨w2.heap.size + 1, 0, none⟩) 1 1] ((w2.alloc o).alloc (.cells #[.pointer (some ⟨w2.heap.size, 0, none⟩)] 56)) fun e w' =>
      ∃ kv3, e = .returned kv3 ∧ w'.ownsRow B 56 1 kv3 (bs.length + 1) ((bs.map ptrV).take (q * 1) ++ [ptrV w2.heap.size] ++ (bs.map ptrV).drop (q * 1)) ∧ ((w2.alloc o).alloc (.cells #[.pointer (some ⟨w2.heap.size, 0, none⟩)] 56)).grownBy w' kv.ownBlock := by
  have hb : Below w2.heap.size w2 ((w2.alloc o).alloc (.cells #[.pointer (some ⟨w2.heap.size, 0, none⟩)] 56)) := ((Below.refl _ _).alloc (Nat.le_refl _) _).alloc (by simp) _
  have hg := (MapKept.heap_alloc (w2.alloc o) (.cells #[.pointer (some ⟨w2.heap.size, 0, none⟩)] 56)).1
  have hs : (w2.alloc o).heap.size = w2.heap.size + 1 := by simp
  rw [hs] at hg
  exact insN_any (owns_below hown hb) (by have := hb.size; omega) hq (by omega) (new := [ptrV w2.heap.size]) hg rfl (by intro u hu; simp at hu; subst hu; rfl) (fun e => by have := (hown.lt _ e).2; omega) (ptr_one bs)

theorem owns_grown {w w' : World} {B E k n : Nat} {v : Value} {xs : List Value} {row : Option Nat} (h : w.ownsRow B E k v n xs) (hg : w.grownBy w' row) (hr : ∀ g, row = some g → g < B) : w'.ownsRow B E k v n xs := by
  refine ⟨h.1, ?_⟩
  rcases h.2 with h0 | ⟨g, cap, cur, e, h1, h2, h3⟩
  · exact .inl h0
  · exact .inr ⟨g, cap, cur, e, h1, (hg.block g (Array.getElem?_eq_some_iff.1 h2).1 (fun e => by have := hr g e.symm; omega)).trans h2, h3⟩

theorem grown_cell {w w' : World} {row : Option Nat} {b o : Nat} {u : Value} (h : w.grownBy w' row) (hc : w.cell? ⟨b, o, none⟩ = some u) (hne : some b ≠ row) : w'.cell? ⟨b, o, none⟩ = some u :=
  (World.cell?_of_block (w := w) (a := ⟨b, o, none⟩) (h.block b (World.block_lt_of_cell? w _ hc) hne)).trans hc

theorem grown_below {w w' : World} {row : Option Nat} {B : Nat} (h : w.grownBy w' row) (hB : B ≤ w.heap.size) (hr : ∀ g, row = some g → B ≤ g) : Below B w w' :=
  ⟨h.os, h.tape, h.output, h.size, fun k hk => h.block k (by omega) (fun e => by have := hr k e.symm; omega)⟩

set_option maxHeartbeats 4000000 in
set_option maxRecDepth 100000 in
theorem put_new {F : Nat → Prop} {w : World} {p : Nat} {t : Tree} (G : Good F w p t) {pv : Value} {x : ByteArray} {xs : List ByteArray} (hp : StrsAt w pv (x :: xs)) (hpl : (x :: xs).length ≤ 1000000001) {b : Nat} {m : MsgV} (hm : MsgAt F w b m) (hk : kidAt ltB x t.kids = none) :
    Calls Tryz.prog 27 #[.pointer (some ⟨p, 0, none⟩), pv, .pointer (some ⟨b, 0, none⟩)] w (PutPost F w (put ltB t (x :: xs) m)) := by
  rw [put_none hk]
  obtain ⟨sv, mv, kv, bs, O⟩ := G.node.open
  obtain ⟨a1, c1, x1, a2, c2', rfl, rfl, rfl⟩ := open_shapes O
  obtain ⟨b1, o1, cp, rfl, p1, p2, p3, p4⟩ := hp.open (by simp)
  have k1 := p4 0 x rfl
  rw [Nat.add_zero] at k1
  have kc := O.c2
  obtain ⟨n, hn⟩ : ∃ n, (x :: xs).length = n := ⟨_, rfl⟩
  have hn0 : 0 < n := by rw [← hn]; simp
  have hne : ((n : Int) == 0) = false := by rw [beq_eq_false_iff_ne]; omega
  have hb1 : (0 : Int) < (n : Int) := by omega
  have hso : (kidAt ltB x t.kids).isSome = false := by rw [hk]; rfl
  rw [hn] at hp p1 hpl
  have HSO := Lib.hid hso
  have HO := Lib.hid O
  have HG := Lib.hid G
  have HM := Lib.hid hm
  have HP := Lib.hid hp
  have HN := Lib.hid hn
  clear O G hm hp p4 hk hso hn
  rw [HN.out]
  go_enter Tryz.func27, Tryz.ntmps27
  go_wp2_with fail
  go_quiet ((go_at_call 54; exact Calls.quiet_of_same (bsf_open HO.out HG.out.forest HG.out.lim x _)))
  rw [HSO.out]
  have hOV := HO.out.below (below_drew w nq)
  have HOV := Lib.hid hOV
  have HMV := Lib.hid (HM.out.below (below_drew w nq))
  have HPV := Lib.hid (HP.out.below (below_drew w nq))
  have HVB := Lib.hid (below_drew w nq)
  have hpl2 := place_le x t.kids
  obtain ⟨q, hq⟩ : ∃ q, place ltB x t.kids = q := ⟨_, rfl⟩
  have HQ := Lib.hid hq
  rw [hq] at hpl2 ⊢
  clear hq hOV k1 kc HO HM HP
  generalize w.drewN nq = V at HOV HMV HPV HVB ⊢
  have kc := HOV.out.c2
  have hbn : bs.length ≤ 1000000 := by rw [HOV.out.hl]; exact HG.out.lim.kids HG.out.forest
  have hqb : q ≤ bs.length := by rw [HOV.out.hl]; exact hpl2
  clear hpl2
  go_wp2_with fail
  refine (cloneN_any (w := V) HOV.out.hk (by omega) (ptr_one bs)).mono ?_
  rintro e w1 ⟨kv1, rfl, hown1, hb1'⟩
  have HO1 := Lib.hid (HOV.out.below hb1')
  have HM1 := Lib.hid (HMV.out.below hb1')
  have HP1 := Lib.hid (HPV.out.below hb1')
  have HB1 := Lib.hid (HVB.out.trans (hb1'.mono HVB.out.size))
  have HOW1 := Lib.hid hown1
  have HVS := Lib.hid hb1'.size
  have HVW := Lib.hid HVB.out.size
  have HOV2 := Lib.hid HOV.out
  have HMV2 := Lib.hid HMV.out
  have HV1 := Lib.hid hb1'
  have HOB := Lib.hid (fun g e => hown1.lt g e)
  have hlt0 : p < V.heap.size := World.block_lt_of_cell? V _ kc
  obtain ⟨akv, ckv, rfl⟩ : ∃ akv ckv, kv1 = .slice akv bs.length ckv := by
    rcases hown1.2 with ⟨rfl, h0⟩ | ⟨g, cap, cur, rfl, _⟩
    · rw [h0]; exact ⟨none, 0, rfl⟩
    · exact ⟨_, cap, rfl⟩
  have c0 := HO1.out.c0
  have c1x := HO1.out.c1
  have HRS := Lib.hid (show RowAt w1.drew 1 (.slice (some ⟨b1, o1, none⟩) n cp) n ((x :: xs).map Value.string) from by
    have h := (RowAt.of_strs HP1.out).below ((Below.refl _ w1).drew)
    rw [HN.out] at h
    exact h)
  have HPN := Lib.hid (show some p ≠ (Value.slice akv bs.length ckv).ownBlock from fun e => by have := (hown1.lt _ e.symm).1; omega)
  clear hown1 hb1' kc HOV HMV HPV HVB
  go_wp2_with fail
  first
    | (go_region_held3 (fun w' => w'.cell? ⟨p, 0, none⟩ = some (.slice a1 t.lv.length c1) ∧ w'.cell? ⟨p, 1, none⟩ = some (.pointer x1))
        (first
          | go_keep
          | exact ⟨cell_below HB2.out c0, cell_below HB2.out c1x⟩
          | exact ⟨grown_cell HGR3.out (cell_below (((Below.refl _ _).alloc (Nat.le_refl _) _).alloc (by simp) _) (cell_below HB2.out c0)) HPN.out, grown_cell HGR3.out (cell_below (((Below.refl _ _).alloc (Nat.le_refl _) _).alloc (by simp) _) (cell_below HB2.out c1x)) HPN.out⟩)
        (first
          | (go_at_call 58; refine (cloneS_any HRS.out (by omega) (str_one _)).mono ?_; rintro e w2 ⟨sv2, rfl, hown2, hb2⟩; obtain ⟨asv, csv, rfl⟩ := owns_slice hown2; have hb2' : Below w1.heap.size w1 w2 := ((Below.refl _ w1).drew).trans hb2; have HINS := Lib.hid (ins_ready (q := q) (owns_below HOW1.out hb2') (by have := hb2'.size; have := HVS.out; omega) hqb hbn (.cells #[.slice asv n csv, .pointer (some ⟨b, 0, none⟩), .slice none 0 0] 60)); have HB2 := Lib.hid hb2'; have HOW2 := Lib.hid hown2; clear hown2 hb2')
          | (go_at_call 57; refine HINS.out.mono ?_; rintro e w3 ⟨kv3, rfl, hown3, hgr3⟩; obtain ⟨ak3, ck3, rfl⟩ := owns_slice hown3; have HOW3 := Lib.hid hown3; have HGR3 := Lib.hid hgr3; clear hown3 hgr3)))
    | fail "x"
  all_goals
    go_wp2_with fail
    go_ret
    have hAA : Below w2.heap.size w2 ((w2.alloc (.cells #[.slice asv n csv, .pointer (some ⟨b, 0, none⟩), .slice none 0 0] 60)).alloc (.cells #[.pointer (some ⟨w2.heap.size, 0, none⟩)] 56)) := ((Below.refl _ _).alloc (Nat.le_refl _) _).alloc (by simp) _
    have g0 := (Below.heap_alloc (w2.alloc (.cells #[.slice asv n csv, .pointer (some ⟨b, 0, none⟩), .slice none 0 0] 60)) (.cells #[.pointer (some ⟨w2.heap.size, 0, none⟩)] 56) w2.heap.size (by simp)).trans (MapKept.heap_alloc w2 (.cells #[.slice asv n csv, .pointer (some ⟨b, 0, none⟩), .slice none 0 0] 60)).1
    have hgr := HGR3.out
    generalize (w2.alloc (.cells #[.slice asv n csv, .pointer (some ⟨b, 0, none⟩), .slice none 0 0] 60)).alloc (.cells #[.pointer (some ⟨w2.heap.size, 0, none⟩)] 56) = A2 at hAA g0 hgr
    have hrow : ∀ g, (Value.slice akv bs.length ckv).ownBlock = some g → V.heap.size ≤ g ∧ g < w1.heap.size := HOB.out
    have hs1 := HVS.out
    have hs0 : w1.drew.heap.size = w1.heap.size := rfl
    have hs2 := HB2.out.size
    have hs3 := hAA.size
    have hV1 : Below V.heap.size V w1 := HV1.out
    have hVA : Below V.heap.size V A2 := (hV1.trans (HB2.out.mono hs1)).trans (hAA.mono (by omega))
    have hV3 : Below V.heap.size V w3 := hVA.trans (grown_below hgr (by omega) (fun g e => (hrow g e).1))
    have hW3 : Below w.heap.size w w3 := ((HB1.out.trans (HB2.out.mono HB1.out.size)).trans (hAA.mono (by have := HB1.out.size; omega))).trans (grown_below hgr (by have := HB1.out.size; omega) (fun g e => by have := (hrow g e).1; have := HVW.out; omega))
    have hOl : Rt.Open F w3 p t _ _ _ bs := HOV2.out.below hV3
    have hMl := HMV2.out.below hV3
    have hln : (some w2.heap.size : Option Nat) ≠ (Value.slice akv bs.length ckv).ownBlock := fun e => by have := (hrow _ e.symm).2; omega
    have hsz : w2.heap.size < A2.heap.size := (Array.getElem?_eq_some_iff.1 g0).1
    have hsw := HVW.out
    have hs4 := hgr.size
    have new : ∀ g, w.heap.size ≤ g → g < w3.heap.size → (Since F w w3) g := fun g a b => .inr ⟨a, b⟩
    have old : ∀ g, F g → (Since F w w3) g := fun g h => .inl h
    have l0 : w3.cell? ⟨w2.heap.size, 0, none⟩ = some (.slice asv n csv) := grown_cell hgr (by unfold World.cell?; simp only; rw [g0]; rfl) hln
    have l1 : w3.cell? ⟨w2.heap.size, 1, none⟩ = some (.pointer (some ⟨b, 0, none⟩)) := grown_cell hgr (by unfold World.cell?; simp only; rw [g0]; rfl) hln
    have l2 : w3.cell? ⟨w2.heap.size, 2, none⟩ = some (.slice none 0 0) := grown_cell hgr (by unfold World.cell?; simp only; rw [g0]; rfl) hln
    have hstr : StrsF (Since F w w3) w3 (.slice asv n csv) (x :: xs) := by
      have h1 := owns_grown (owns_below HOW2.out hAA) hgr (fun g e => by have := (hrow g e).2; omega)
      have h2 := RowF.of_owns (F := Since F w w3) h1 (fun g a b => new g (by omega) b)
      unfold StrsF
      rw [HN.out]
      exact h2
    have hleaf : NodeAt (Since F w w3) w3 w2.heap.size (.node (x :: xs) (some m) []) := Rt.Open.shut (bs := []) ⟨new _ (by omega) (by omega), l0, hstr, l1, ⟨b, rfl, hMl.mono old⟩, l2, rowF_nil _ _ _, rfl, fun i b k h _ => by simp at h⟩
    obtain ⟨r1, r2, r3⟩ := kids_ins (F := Since F w w3) (i := q) hOl.hl hqb (fun i b k e1 e2 => NodeAt.mono old (hOl.hn i b k e1 e2)) hleaf HOW3.out (fun g a b => new g (by omega) b)
    have el : (bs.take q ++ w2.heap.size :: bs.drop q).length = bs.length + 1 := by simp; omega
    obtain ⟨h1, h2, h3⟩ := node_new (F := fun x => Since F w w3 x ∨ x = w3.heap.size) (w := w3) (t := Tr.node t.lv t.val (t.kids.take q ++ .node (x :: xs) (some m) [] :: t.kids.drop q)) (sv := .slice a1 t.lv.length c1) (mv := .pointer x1) (kv := .slice ak3 (bs.length + 1) ck3) (bs := bs.take q ++ w2.heap.size :: bs.drop q) (ty := 60) rfl (.inr rfl) (RowF.mono hOl.hsf (fun _ h => .inl (.inl h))) (hOl.hm.mono (fun _ h => .inl (.inl h))) (r1.mono (fun _ h => .inl h)) r2 (fun i b k e1 e2 => NodeAt.mono (fun _ h => .inl h) (r3 i b k e1 e2))
    have hw3 := hW3.size
    have h1' := h1
    rw [← HQ.out] at h1'
    refine ⟨w3.heap.size, rfl, NodeAt.mono (fun x h => ?_) h1', hW3.trans (h2.mono hW3.size)⟩
    rcases h with (h | ⟨ha, hb⟩) | rfl
    · exact .inl h
    · exact .inr ⟨ha, by rw [h3]; omega⟩
    · exact .inr ⟨hw3, by rw [h3]; omega⟩

end Go.Proofs.YtgnffkahlniehaaGreat
