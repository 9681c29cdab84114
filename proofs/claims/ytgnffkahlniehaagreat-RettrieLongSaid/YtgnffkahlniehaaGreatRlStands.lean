/- Proved here: crierref7.Stands, of a tree's items: the tree's shape. -/
import Derived.Test.YtgnffkahlniehaaGreatRlA
import Derived.Deep.RegionLaw
namespace Go.Proofs.YtgnffkahlniehaaGreat
open Go Go.RowKit Go.Proofs.Gs Go.Proofs.Tri Go.Proofs.Rt Go.Proofs.Tp

set_option maxRecDepth 100000 in
theorem cut_items (W : World) (a : Option Addr) (n cap i : Nat) (h : (i : Int) ≤ (n : Int)) : (Instr.slice 111 (.slice a n cap) (some (.int .i64 (i : Nat))) none none).run Tryz.prog W = .ok (.slice (if cap = i then a else a.map (·.add (i * 3))) (n - i) (cap - i)) W := by
  have h0 : (0 : Int) ≤ (i : Int) := by omega
  go_simp
set_option maxRecDepth 100000 in
theorem cut_items_to (W : World) (a : Option Addr) (n cap i : Nat) (h : (i : Int) ≤ (cap : Int)) : (Instr.slice 111 (.slice a n cap) none (some (.int .i64 (i : Nat))) none).run Tryz.prog W = .ok (.slice (if cap = 0 then a else a.map (·.add (0 * 3))) i cap) W := by
  have h0 : (0 : Int) ≤ (i : Int) := by omega
  go_simp

/-- What stands between two rounds: the box of the shape, the kids told so far. -/
structure StBox (F : Nat → Prop) (w W : World) (ev : Value) (here : Bool) (xv kv : Value) (hs : List Sh) (es : List (ByteArray × Int)) (lv : List ByteArray) : Prop where
  box : W.heap[w.heap.size + 1]? = some (.cells #[ev, .bool here, xv, kv] 88 (0, 0))
  res : W.heap[w.heap.size]? = some (.cells #[.slice none 0 0, .bool false, .slice none 0 0, .slice none 0 0] 88 (0, 0))
  kids : Gro (w.heap.size + 2) 88 4 ElSh (Out F (w.heap.size + 2) W kv) W kv hs
  ents : EntsF F W xv es
  lvs : StrsF F W ev lv
  below : Below w.heap.size w W
  low : w.heap.size + 2 ≤ W.heap.size

theorem same_of_below {F : Nat → Prop} {B : Nat} {w w' : World} (h : Below B w w') (hF : ∀ b, F b → b < B) : Same F w w' := fun k _ hk => h.block k (hF k hk)

theorem StBox.move {F : Nat → Prop} {w W W' : World} {ev : Value} {here : Bool} {xv kv : Value} {hs : List Sh} {es : List (ByteArray × Int)} {lv : List ByteArray} (h : StBox F w W ev here xv kv hs es lv) (hF : ∀ b, F b → b < w.heap.size) (hb : Below W.heap.size W W') : StBox F w W' ev here xv kv hs es lv := by
  have hl := h.low
  exact ⟨(hb.block _ (by omega)).trans h.box, (hb.block _ (by omega)).trans h.res, h.kids.move eltSh (fun b hb => by have := hF b hb; omega) h.low hb, RowF.keep h.ents (Same.below hb), RowF.keep h.lvs (Same.below hb), h.below.trans (hb.mono h.below.size), by have := hb.size; omega⟩
theorem StBox.next {F : Nat → Prop} {w W w6 : World} {ev : Value} {here : Bool} {xv kv v6 : Value} {hs hs' : List Sh} {es : List (ByteArray × Int)} {lv : List ByteArray} (h : StBox F w W ev here xv kv hs es lv) (hF : ∀ b, F b → b < w.heap.size)
    (hg : Gro (w.heap.size + 2) 88 4 ElSh (Out F (w.heap.size + 2) w6 v6) w6 v6 hs') (hb : Below (w.heap.size + 2) W w6) :
    w6.heap[w.heap.size + 1]? = some (.cells #[ev, .bool here, xv, kv] 88 (0, 0)) ∧ StBox F w (w6.setCell ⟨w.heap.size + 1, 3, none⟩ v6) ev here xv v6 hs' es lv ∧ Below w.heap.size W (w6.setCell ⟨w.heap.size + 1, 3, none⟩ v6) := by
  have hbox := (hb.block (w.heap.size + 1) (by omega)).trans h.box
  have hsz : (w6.setCell ⟨w.heap.size + 1, 3, none⟩ v6).heap.size = w6.heap.size := by simp [World.setCell]
  have ho : ∀ k, k ≠ w.heap.size + 1 → (w6.setCell ⟨w.heap.size + 1, 3, none⟩ v6).heap[k]? = w6.heap[k]? := fun k hk => heap_setCell_other _ _ _ _ hk
  have hbw : Below w.heap.size W (w6.setCell ⟨w.heap.size + 1, 3, none⟩ v6) := (hb.mono (by omega)).setCell (p := ⟨w.heap.size + 1, 3, none⟩) (by simp) _
  have hl := h.low
  have hs6 := hb.size
  refine ⟨hbox, ⟨heap_setCell_same _ _ _ _ _ _ hbox, (ho _ (by omega)).trans ((hb.block _ (by omega)).trans h.res), ?_, RowF.keep h.ents (same_of_below hbw hF), RowF.keep h.lvs (same_of_below hbw hF), h.below.trans (hbw.mono (Nat.le_refl _)), by omega⟩, hbw⟩
  have hk := hg.keep eltSh (w' := w6.setCell ⟨w.heap.size + 1, 3, none⟩ v6) (fun b hlt hF' => ho b (by
    rcases hF' with (hF' | hF') | hF'
    · have := hF b hF'; omega
    · omega
    · have := (hg.bound hF'.symm).1; omega)) (by omega)
  refine hk.mono eltSh (fun b hb' => by rcases hb' with hb' | hb'; exact .inl hb'; exact .inr ⟨hb'.1, by omega, hb'.2.2⟩) (fun b hb' => ?_)
  exact hk.out b (by rcases hb' with hb' | hb'; exact .inl hb'; exact .inr ⟨hb'.1, by omega, hb'.2.2⟩)

theorem stBox_done {F : Nat → Prop} {w wr W4 : World} {ev : Value} {hr : Bool} {xv kv : Value} {es : List (ByteArray × Int)} {lv : List ByteArray} {v : Option ItemV} {ks : List ItTree} (hhr : (v.map Prod.fst).getD false = hr) (hes : (v.map Prod.snd).getD [] = es) (hF : ∀ b, F b → b < w.heap.size)
    (h : StBox F w wr ev hr xv kv ((ks.take ks.length).map shG) es lv) (o4 : ∀ k, k ≠ w.heap.size → W4.heap[k]? = wr.heap[k]?) (hb4 : Below w.heap.size wr W4) :
    ∃ ev2 kv', Ending.returned (.agg #[ev, .bool hr, xv, kv]) = .returned (.agg #[ev, .bool (shG (Tr.node lv v ks)).here, ev2, kv']) ∧ ShAt (Since F w W4) W4 (ev, ev2, kv') (shG (Tr.node lv v ks)) ∧ Below w.heap.size w W4 := by
  have hl := h.low
  have hs4 := hb4.size
  have hsh : shG (Tr.node lv v ks) = .node lv hr es (ks.map shG) := by rw [shG_node, hhr, hes]
  rw [hsh]
  refine ⟨xv, kv, rfl, ?_, h.below.trans (hb4.mono (Nat.le_refl _))⟩
  have hk := h.kids.keep eltSh (w' := W4) (fun b hlt hF' => o4 b (by
    rcases hF' with (hF' | hF') | hF'
    · have := hF b hF'; omega
    · omega
    · have := (h.kids.bound hF'.symm).1; omega)) hs4
  rw [List.take_length] at hk
  refine sh_make (RowF.mono (RowF.keep h.lvs (same_of_below hb4 hF)) since_old) (RowF.mono (RowF.keep h.ents (same_of_below hb4 hF)) since_old) (hk.reads eltSh (fun b hb => ?_)) (fun b e => .inr ⟨by have := (hk.bound e).1; omega, (hk.bound e).2⟩)
  rcases hb with hb | hb
  · exact .inl hb
  · exact .inr ⟨by omega, by omega⟩

/-- One more shape, behind a row that grows. -/
theorem shapes_more {X : Nat → Prop} {w w3 : World} {Z : Nat} {v : Value} {xs : List Sh} {k : Sh} {r : Sl3} (hX : ∀ b, X b → b < Z) (hZ : Z ≤ w.heap.size) (h : Gro Z 88 4 ElSh (Out X Z w v) w v xs) (hb : Below w.heap.size w w3)
    (hs : ShAt (Out X Z w3 v) w3 r k) (hl : xs.length ≤ 1000000) :
    ∃ v' w', (∀ ty, (Builtin.append_ #[86, 86] ty #[v, .slice (some ⟨w3.heap.size, 0, none⟩) 1 1]).run Tryz.prog (w3.alloc (.cells #[r.1, .bool k.here, r.2.1, r.2.2] 88)) = .ok v' w') ∧ Gro Z 88 4 ElSh (Out X Z w' v') w' v' (xs ++ [k]) ∧ Below Z w w' := by
  obtain ⟨i0, hi, hz0, hz1, hz2⟩ := info_parts infoShape
  obtain ⟨v', w', h1, h2, h3, _⟩ := gro_one eltSh (P := Tryz.prog) (t := 86) i0 _ 80 Tryz.underlying86 hi hz0 hz1 hz2 rfl (by decide) hX hZ h hb (a := k) (cs := shCell r k) ⟨r, rfl, hs⟩ (by unfold maxLen; omega) (by omega)
  exact ⟨v', w', h1, h2, h3⟩

set_option maxHeartbeats 4000000 in
set_option maxRecDepth 100000 in
theorem stands_any : ∀ t : ItTree, Forest ltB t.kids → Lim t → StandsSpec t := by
  refine Tr.ind (fun lv v ks ih => ?_)
  intro hfo hli F w ev l hev hl hF
  rw [Tr.kids_node] at hfo
  rw [Tr.lv_node] at hev
  have HIH := Lib.hid (fun k hk => ih k hk (hfo.ok k hk).forest (hli.kid (k := k) (by rw [Tr.kids_node]; exact hk)).1)
  have HFO := Lib.hid hfo
  have HLI := Lib.hid hli
  have HF := Lib.hid hF
  obtain ⟨ea, en, ec, rfl⟩ : ∃ a n c, ev = .slice a n c := by obtain ⟨⟨_, a, c, e, _⟩, _⟩ := id hev; exact ⟨a, _, c, e⟩
  obtain ⟨la, lc, rfl, hlc, hlm⟩ := items_slice hl
  obtain ⟨n, hn⟩ : ∃ n, (body (Tr.node lv v ks)).length = n := ⟨_, rfl⟩
  obtain ⟨hr, hhr⟩ : ∃ hr, (v.map Prod.fst).getD false = hr := ⟨_, rfl⟩
  obtain ⟨es, hes⟩ : ∃ es, (v.map Prod.snd).getD [] = es := ⟨_, rfl⟩
  have HHR := Lib.hid hhr
  have HES := Lib.hid hes
  rw [hn] at hlc hl ⊢
  obtain ⟨W0, hW0⟩ : ∃ W0, (w.alloc (.cells #[.slice none 0 0, .bool false, .slice none 0 0, .slice none 0 0] 88)).alloc (.cells #[.slice ea en ec, .bool false, .slice none 0 0, .slice none 0 0] 88) = W0 := ⟨_, rfl⟩
  obtain ⟨hb0, hs0, g0, g1⟩ := two_rows hW0
  have HW0 := Lib.hid hW0
  have hl0 := hl.keep (Same.below hb0)
  have hst : StBox F w W0 (.slice ea en ec) false (.slice none 0 0) (.slice none 0 0) [] [] lv := ⟨g1, g0, Gro.start eltSh (fun b hb => by have := hF b hb; omega), rowF_nil _ _ _, RowF.keep hev (Same.below hb0), hb0, by omega⟩
  have HST0 := Lib.hid hst
  have HL0 := Lib.hid hl0
  have HB0 := Lib.hid hb0
  clear ih hfo hli hF hl hev hhr hes hb0 hst hl0 g0 g1 hW0
  have HL6 := Lib.hid (show (entsL ks).length ≤ 1000000 from by
    have h1 := HLI.out.count
    have h3 : (entsL ks).length ≤ (body (Tr.node lv v ks)).length := by unfold body; rw [List.length_append]; show (entsL ks).length ≤ _ + (entsL ks).length; omega
    omega)
  cases v with
  | none =>
    have hbody : body (Tr.node lv none ks : ItTree) = entsL ks := rfl
    have hhr : hr = false := HHR.out.symm
    have hes : es = [] := HES.out.symm
    rw [hbody] at HL0 hn
    obtain ⟨xa, xn, xc, hx⟩ : ∃ xa xn xc, (Value.slice none 0 0) = .slice xa xn xc := ⟨_, _, _, rfl⟩
    have HST : Hid (StBox F w W0 (.slice ea en ec) hr (.slice xa xn xc) (.slice none 0 0) [] es lv) := Lib.hid (by rw [hhr, hes]; exact hx ▸ HST0.out)
    clear hhr hes
    have HIT : Hid (ItemsAt F W0 (.slice la n lc) (entsL ks)) := HL0
    by_cases hn0 : n = 0
    · subst hn0
      clear hn HL0 HST0 hx
      go_enter Tryz.func74, Tryz.ntmps74
      go_upto_region 2 with fail
      rw [HW0.out]
      go_wp2_with fail
      go_loopg [1] ks.length (fun g v1 wr => ∃ (i : Nat) (kv : Value), i + g = ks.length ∧ ItemsAt F wr v1 (entsL (ks.drop i)) ∧ StBox F w wr (.slice ea en ec) hr (.slice xa xn xc) kv ((ks.take i).map shG) es lv)
      case atStart => exact ⟨0, _, by omega, HIT.out, HST.out⟩
      case round =>
        obtain ⟨i, kv, hig, hit, hbx⟩ := hrel
        have HBX := Lib.hid hbx
        have HI := Lib.hid hit
        obtain ⟨la, lc, rfl, hlc, hlm⟩ := items_slice hit
        clear hbx hit
        cases gk with
        | zero =>
          obtain rfl : i = ks.length := by omega
          have hnil : entsL (ks.drop ks.length) = [] := by rw [List.drop_length]; rfl
          rw [hnil] at HI ⊢
          obtain ⟨ka, kc, rfl⟩ := HBX.out.kids.slice
          obtain ⟨kn, hkn⟩ : ∃ kn, ((ks.take ks.length).map shG).length = kn := ⟨_, rfl⟩
          rw [hkn] at HBX
          have z0 := cell4' HBX.out.box 0 _ rfl
          have z1 := cell4' HBX.out.box 1 _ rfl
          have z2 := cell4' HBX.out.box 2 _ rfl
          have z3 := cell4' HBX.out.box 3 _ rfl
          have t0 := cell4' HBX.out.res 0 _ rfl
          have t1 := cell4' HBX.out.res 1 _ rfl
          have t2 := cell4' HBX.out.res 2 _ rfl
          have t3 := cell4' HBX.out.res 3 _ rfl
          have tf := fun j => frozen_of_row wr w.heap.size j _ _ HBX.out.res
          have hd : decide ((0 : Int) < (([] : Items).length : Int)) = false := rfl
          go_wp2_with fail
          obtain ⟨W4, hW4⟩ : ∃ W4, (((wr.setCell ⟨w.heap.size, 0, none⟩ (.slice ea en ec)).setCell ⟨w.heap.size, 1, none⟩ (.bool hr)).setCell ⟨w.heap.size, 2, none⟩ (.slice xa xn xc)).setCell ⟨w.heap.size, 3, none⟩ (.slice ka kn kc) = W4 := ⟨_, rfl⟩
          obtain ⟨g4, b4, s4⟩ := set4 HBX.out.res hW4
          have o4 : ∀ k, k ≠ w.heap.size → W4.heap[k]? = wr.heap[k]? := fun k hk => by
            rw [← hW4]
            exact (heap_setCell_other _ _ _ _ hk).trans ((heap_setCell_other _ _ _ _ hk).trans ((heap_setCell_other _ _ _ _ hk).trans (heap_setCell_other _ _ _ _ hk)))
          rw [hW4]
          clear hW4 t0 t1 t2 t3 z0 z1 z2 z3
          have m0 := cell4' g4 0 _ rfl
          have m1 := cell4' g4 1 _ rfl
          have m2 := cell4' g4 2 _ rfl
          have m3 := cell4' g4 3 _ rfl
          refine bodyPost_ret (v := .agg #[.slice ea en ec, .bool hr, .slice xa xn xc, .slice ka kn kc]) (by simp [results, Tryz.results74, go_sem, m0, m1, m2, m3]) rfl ?_
          exact stBox_done HHR.out HES.out HF.out HBX.out o4 (b4 _ (Nat.le_refl _))
        | succ gk =>
          obtain ⟨k, hk⟩ : ∃ k, ks[i]? = some k := ⟨_, List.getElem?_eq_getElem (by omega)⟩
          have hmem := List.mem_of_getElem? hk
          have hdrop : ks.drop i = k :: ks.drop (i + 1) := by rw [List.drop_eq_getElem_cons (by omega)]; congr 1; exact (List.getElem?_eq_some_iff.1 hk).2
          rw [hdrop] at HI hlc ⊢
          obtain ⟨L, hL⟩ : ∃ L, (entsL (k :: ks.drop (i + 1))).length = L := ⟨_, rfl⟩
          obtain ⟨M, hM⟩ : ∃ M, (ents k).length = M := ⟨_, rfl⟩
          have hM1 : 1 ≤ M := by rw [← hM]; exact List.length_pos_iff.2 (HFO.out.ok k hmem).ents_ne
          have hLM : L = M + (entsL (ks.drop (i + 1))).length := by rw [← hL, entsL_cons, List.length_append, hM]
          have hML : M ≤ L := by omega
          have HLM := Lib.hid hLM
          clear hLM
          have hL6 : L ≤ 1000000 := by
            have h1 := HL6.out
            have h2 : (entsL (ks.drop i)).length ≤ (entsL ks).length := by
              have := entsL_app (ks.take i) (ks.drop i)
              rw [List.take_append_drop] at this
              rw [this, List.length_append]
              omega
            rw [hdrop, hL] at h2
            omega
          obtain ⟨b0, o0, c0, hsl, _, _, _, _⟩ := items_some HI.out (by rw [hL]; omega)
          injection hsl with hs1 hs2 hs3
          subst hs1; subst hs3; clear hs2
          rw [hL] at HI hlc ⊢
          obtain ⟨x, xs, hkl⟩ : ∃ x xs, k.lv = x :: xs := by
            cases h : k.lv with
            | nil => exact absurd h (HFO.out.ne k hmem)
            | cons x xs => exact ⟨x, xs, rfl⟩
          have hfk : Forest ltB (k :: ks.drop (i + 1)) := by
            have := HFO.out
            rw [← List.take_append_drop i ks, hdrop] at this
            exact (Forest.app (a := ks.take i) (b := k :: ks.drop (i + 1)) this).2.1
          have HFK := Lib.hid hfk
          have HKL := Lib.hid hkl
          have HM := Lib.hid hM
          have HL := Lib.hid hL
          have HKK := Lib.hid hk
          have hsub := fun (W : World) (v0 : Value) (hit : ItemsAt F W v0 (ents k)) (hFW : ∀ b, F b → b < W.heap.size) => (below_of (HFO.out.ok k hmem) (HLI.out.kid (k := k) hmem).1 (HLI.out.lv HFO.out hmem) (HFO.out.ne k hmem) (HLI.out.kid (k := k) hmem).2 (HIH.out k hmem) (F := F) (w := W) (v := v0) hit hFW)
          have HSUB := Lib.hid hsub
          have hd : decide ((0 : Int) < (L : Int)) = true := decide_eq_true (by omega)
          have hlen0 : ∀ e ∈ entsL (k :: ks.drop (i + 1)), ∃ y r, e.1 = y :: r := fun e he => by
            obtain ⟨k', hk', he'⟩ := entsL_mem.1 he
            obtain ⟨r, h1, _⟩ := ents_mem he'
            cases h2 : k'.lv with
            | nil => exact absurd h2 (hfk.ne k' hk')
            | cons y ys => exact ⟨y, ys ++ r, by rw [h1, h2]; rfl⟩
          have HLEN0 := Lib.hid hlen0
          obtain ⟨e0, he0⟩ : ∃ e0, (entsL (k :: ks.drop (i + 1)))[0]? = some e0 := ⟨_, List.getElem?_eq_getElem (by rw [hL]; omega)⟩
          have hx0 : ∃ r, e0.1 = x :: r := group_in hkl (i := 0) (by omega) (by unfold keys; rw [List.getElem?_map, he0]; rfl)
          have HE0 := Lib.hid he0
          clear hk hdrop hL hM hfk hkl hmem hlen0 hsub he0
          go_wp2_with fail
          rename World => wo
          go_loopg [6] (M - 1) (fun g v6 wi => ∃ j : Nat, j + g = M ∧ 1 ≤ j ∧ v6 = .int .i64 (j : Nat) ∧ Below wo.heap.size wo wi)
          case atStart => exact ⟨1, by omega, by omega, rfl, Below.refl _ _⟩
          case round =>
            obtain ⟨j, hjg, hj1, rfl, hbi⟩ := hrel
            have HBI := Lib.hid hbi
            have hI2 := HI.out.keep (Same.below hbi)
            obtain ⟨sv0, _, p0, _, _, hst0, _⟩ := items_one hI2 HE0.out
            rw [Nat.zero_mul, Nat.add_zero] at p0
            obtain ⟨a0, c00, rfl, hc0, hm0, hcc0⟩ := strs_at hst0
            obtain ⟨r0, hr0⟩ := hx0
            obtain ⟨sb0, so0, rfl, hcell0⟩ := hcc0 (by rw [hr0]; simp)
            have t0 := hcell0 0 x (by rw [hr0]; rfl)
            rw [Nat.add_zero] at t0
            obtain ⟨n0, hn0⟩ : ∃ n0, e0.1.length = n0 := ⟨_, rfl⟩
            have hn01 : (0 : Int) < (n0 : Int) := by rw [← hn0, hr0]; simp <;> omega
            rw [hn0] at p0 hc0
            clear hst0 hcell0 hcc0 hbi hn0
            cases gk with
            | succ gk =>
              have hjL : decide ((j : Int) < (L : Int)) = true := decide_eq_true (by omega)
              have hq1 : (0 : Int) ≤ (j : Int) := by omega
              have hq2 : (j : Int) < (L : Int) := by omega
              obtain ⟨e1, he1⟩ : ∃ e1, (entsL (k :: ks.drop (i + 1)))[j]? = some e1 := ⟨_, List.getElem?_eq_getElem (by rw [HL.out]; omega)⟩
              obtain ⟨r1, hr1⟩ : ∃ r, e1.1 = x :: r := group_in HKL.out (i := j) (by rw [HM.out]; omega) (by unfold keys; rw [List.getElem?_map, he1]; rfl)
              obtain ⟨sv1, _, p1, _, _, hst1, _⟩ := items_one hI2 he1
              obtain ⟨a1, c01, rfl, hc1, hm1, hcc1⟩ := strs_at hst1
              obtain ⟨sb1, so1, rfl, hcell1⟩ := hcc1 (by rw [hr1]; simp)
              have t1 := hcell1 0 x (by rw [hr1]; rfl)
              rw [Nat.add_zero] at t1
              obtain ⟨n1, hn1⟩ : ∃ n1, e1.1.length = n1 := ⟨_, rfl⟩
              have hn11 : (0 : Int) < (n1 : Int) := by rw [← hn1, hr1]; simp <;> omega
              rw [hn1] at p1 hc1
              have heq : (x.toList == x.toList) = true := by simp
              clear hst1 hcell1 hcc1 hI2 he1 hr1 hn1
              go_wp2_with fail
              go_quiet (fail)
              have hxx := HBI.out.trans ((below_drew wr nq).mono HBI.out.size)
              have HX := Lib.hid hxx
              clear hxx
              generalize wr.drewN nq = V at HX ⊢
              go_wp2_with fail
              go_roundg gk
              case measure => omega
              case rel => exact ⟨j + 1, by omega, by omega, by go_num, HX.out⟩
            | zero =>
              obtain rfl : j = M := by omega
              by_cases hjL : j < L
              · have hd2 : decide ((j : Int) < (L : Int)) = true := decide_eq_true (by omega)
                have hq1 : (0 : Int) ≤ (j : Int) := by omega
                have hq2 : (j : Int) < (L : Int) := by omega
                obtain ⟨e1, he1⟩ : ∃ e1, (entsL (k :: ks.drop (i + 1)))[j]? = some e1 := ⟨_, List.getElem?_eq_getElem (by rw [HL.out]; omega)⟩
                obtain ⟨y, r1, hr1, hyx⟩ : ∃ y r, e1.1 = y :: r ∧ y ≠ x := group_out linB HFK.out HKL.out (by rw [HM.out]; unfold keys; rw [List.getElem?_map, he1]; rfl)
                obtain ⟨sv1, _, p1, _, _, hst1, _⟩ := items_one hI2 he1
                obtain ⟨a1, c01, rfl, hc1, hm1, hcc1⟩ := strs_at hst1
                obtain ⟨sb1, so1, rfl, hcell1⟩ := hcc1 (by rw [hr1]; simp)
                have t1 := hcell1 0 y (by rw [hr1]; rfl)
                rw [Nat.add_zero] at t1
                obtain ⟨n1, hn1⟩ : ∃ n1, e1.1.length = n1 := ⟨_, rfl⟩
                have hn11 : (0 : Int) < (n1 : Int) := by rw [← hn1, hr1]; simp <;> omega
                rw [hn1] at p1 hc1
                have heq : (y.toList == x.toList) = false := by
                  rw [beq_eq_false_iff_ne]
                  exact fun e => hyx (ba_ext (by rwa [Lib.toList_data, Lib.toList_data] at e))
                clear hst1 hcell1 hcc1 hI2 he1 hr1 hn1
                go_wp2_with fail
                go_quiet (fail)
                have hxx := HBI.out.trans ((below_drew wr nq).mono HBI.out.size)
                have HX := Lib.hid hxx
                clear hxx t0 t1 p0 p1
                generalize wr.drewN nq = V at HX ⊢
                have hbv := HBX.out.move HF.out HX.out
                obtain ⟨ka, kc, rfl⟩ := hbv.kids.slice
                have hkn : ((ks.take i).map shG).length = i := by rw [List.length_map, List.length_take]; omega
                rw [hkn] at hbv
                have hk3 := cell4' hbv.box 3 _ rfl
                have hq5 : (j : Int) ≤ (lc : Int) := by omega
                have hq6 : ¬ lc = 0 := by omega
                have hi6 : i ≤ 1000000 := by have := entsL_many HFO.out; have := HL6.out; omega
                obtain ⟨hh, hhe⟩ : ∃ hh, (shG k).here = hh := ⟨_, rfl⟩
                have HHE := Lib.hid hhe
                have hbwV := HX.out
                have hitV := HI.out.keep (Same.below hbwV)
                have hcall : ∀ W, Below V.heap.size V W → Calls Tryz.prog 87 #[.slice (some ⟨b0, o0, none⟩) j lc] W fun e w' => ∃ ev ev2 kv, e = .returned (.agg #[ev, .bool hh, ev2, kv]) ∧ ShAt (Since F W w') w' (ev, ev2, kv) (shG k) ∧ Below W.heap.size W w' := fun W hb => by
                  rw [← HHE.out]
                  refine HSUB.out W _ ?_ (fun b hbF => by have := HF.out b hbF; have := hbv.low; have := hb.size; omega)
                  have h0 := (hitV.keep (Same.below hb)).reads.part eltItem (by decide) (i := 0) (m := j) (by rw [HL.out]; omega)
                  rw [List.drop_zero, Nat.zero_mul, Nat.add_zero, Nat.sub_zero, entsL_cons, ← HM.out, List.take_left] at h0
                  rw [HM.out] at h0
                  exact reads_items h0 (fun b e => hitV.own b e)
                obtain ⟨a9', n9', c9', hcutL, hrest⟩ : ∃ a9 n9 c9, (∀ W, (Instr.slice 111 (.slice (some ⟨b0, o0, none⟩) L lc) (some (.int .i64 (j : Nat))) none none).run Tryz.prog W = .ok (.slice a9 n9 c9) W) ∧ ItemsAt F V (.slice a9 n9 c9) (entsL (ks.drop (i + 1))) := by
                  have h1 := hitV.reads.cut eltItem (by decide) (i := j) (m := L - j) (by rw [HL.out]; omega)
                  rw [entsL_cons, ← HM.out, List.drop_left, HM.out, List.take_of_length_le (by have := HLM.out; omega)] at h1
                  exact ⟨_, _, _, fun W => cut_items W _ L lc j (by omega), reads_items h1 (fun b e => hitV.own b (by rw [← e]; exact cut_block.symm))⟩
                have HREST := Lib.hid hrest
                have HCALL := Lib.hid hcall
                have HBV := Lib.hid hbv
                have HKN := Lib.hid hkn
                clear hbv hkn hhe hbwV hitV hcall hrest hML hd
                (try clear hq1 hq2 hjL hd2)
                (try clear hd2 hjL)
                (try clear hjL)
                go_upto_region 10 with fail
                go_region_law (first
                  | (go_simp; go_at_call 87; refine (HCALL.out _ ((Below.refl _ V).drew)).mono ?_; rintro e w5 ⟨sv5, ev5, kv5, rfl, hsh5, hb5⟩; obtain ⟨a51, n51, c51, a52, n52, c52, a53, n53, c53, he5⟩ := hsh5.slices; injection he5 with he51 he52; injection he52 with he52 he53; subst he51; subst he52; subst he53; have hb5' : Below V.heap.size V w5 := ((Below.refl _ V).drew).trans hb5; obtain ⟨v6, w6, hrun, hg6, hb6⟩ := shapes_more (fun b hb => by have := HF.out b hb; omega) HBV.out.low HBV.out.kids hb5' (hsh5.mono (fun b hb => by rcases hb with hb | hb; exact .inl hb; exact fresh_out HBV.out.kids HBV.out.low b ⟨hb.1, hb.2⟩)) (by have := HKN.out; omega); obtain ⟨a6, c6, rfl⟩ := hg6.slice; obtain ⟨n6, hn6⟩ : ∃ n6, ((ks.take i).map shG ++ [shG k]).length = n6 := ⟨_, rfl⟩; rw [hn6] at hrun hg6; obtain ⟨hbx6, hnx6, hbn6⟩ := HBV.out.next HF.out hg6 hb6; rw [HHE.out] at hrun; have d6 := cell4' hbx6 3 _ rfl; have f6 := fun j => frozen_of_row w6 (w.heap.size + 1) j _ _ hbx6; have c5 := cell_below hb5' hk3; have c5' := cell_below ((Below.refl _ w5).alloc (Nat.le_refl _) (.cells #[.slice a51 n51 c51, .bool hh, .slice a52 n52 c52, .slice a53 n53 c53] 88)) c5; have HNX := Lib.hid hnx6; have HBN := Lib.hid hbn6; clear hsh5 hb5 hb5' hg6 hb6 hn6 hbx6 hnx6 hbn6)
                  | (refine step_append_run _ (by rfl) _ _ _ _ (by rfl) _ _ (by rfl) (by rfl) _ _ hrun ?_))
                all_goals
                  obtain ⟨W7, hW7⟩ : ∃ W7, w6.setCell ⟨w.heap.size + 1, 3, none⟩ (.slice a6 n6 c6) = W7 := ⟨_, rfl⟩
                  have hnx := HNX.out
                  have hbn := HBN.out
                  rw [hW7] at hnx hbn ⊢
                  have HNX7 := Lib.hid hnx
                  have HBN7 := Lib.hid hbn
                  clear hnx hbn hW7 d6 f6 HNX HBN hrun c5 c5' hk3 hq5 hq6
                  go_wp2_with fail
                  go_roundg gk
                  case measure => omega
                  case rel => exact ⟨i + 1, _, by omega, HREST.out.keep (same_of_below HBN7.out HF.out), by rw [List.take_add_one, HKK.out, List.map_append]; exact HNX7.out⟩
              · have hd2 : decide ((j : Int) < (L : Int)) = false := decide_eq_false (by omega)
                go_wp2_with fail
                go_quiet (fail)
                have hxx := HBI.out.trans ((below_drew wr nq).mono HBI.out.size)
                have HX := Lib.hid hxx
                clear hxx t0 p0
                generalize wr.drewN nq = V at HX ⊢
                have hbv := HBX.out.move HF.out HX.out
                obtain ⟨ka, kc, rfl⟩ := hbv.kids.slice
                have hkn : ((ks.take i).map shG).length = i := by rw [List.length_map, List.length_take]; omega
                rw [hkn] at hbv
                have hk3 := cell4' hbv.box 3 _ rfl
                have hq5 : (j : Int) ≤ (lc : Int) := by omega
                have hq6 : ¬ lc = 0 := by omega
                have hi6 : i ≤ 1000000 := by have := entsL_many HFO.out; have := HL6.out; omega
                obtain ⟨hh, hhe⟩ : ∃ hh, (shG k).here = hh := ⟨_, rfl⟩
                have HHE := Lib.hid hhe
                have hbwV := HX.out
                have hitV := HI.out.keep (Same.below hbwV)
                have hcall : ∀ W, Below V.heap.size V W → Calls Tryz.prog 87 #[.slice (some ⟨b0, o0, none⟩) j lc] W fun e w' => ∃ ev ev2 kv, e = .returned (.agg #[ev, .bool hh, ev2, kv]) ∧ ShAt (Since F W w') w' (ev, ev2, kv) (shG k) ∧ Below W.heap.size W w' := fun W hb => by
                  rw [← HHE.out]
                  refine HSUB.out W _ ?_ (fun b hbF => by have := HF.out b hbF; have := hbv.low; have := hb.size; omega)
                  have h0 := (hitV.keep (Same.below hb)).reads.part eltItem (by decide) (i := 0) (m := j) (by rw [HL.out]; omega)
                  rw [List.drop_zero, Nat.zero_mul, Nat.add_zero, Nat.sub_zero, entsL_cons, ← HM.out, List.take_left] at h0
                  rw [HM.out] at h0
                  exact reads_items h0 (fun b e => hitV.own b e)
                obtain ⟨a9', n9', c9', hcutL, hrest⟩ : ∃ a9 n9 c9, (∀ W, (Instr.slice 111 (.slice (some ⟨b0, o0, none⟩) L lc) (some (.int .i64 (j : Nat))) none none).run Tryz.prog W = .ok (.slice a9 n9 c9) W) ∧ ItemsAt F V (.slice a9 n9 c9) (entsL (ks.drop (i + 1))) := by
                  have h1 := hitV.reads.cut eltItem (by decide) (i := j) (m := L - j) (by rw [HL.out]; omega)
                  rw [entsL_cons, ← HM.out, List.drop_left, HM.out, List.take_of_length_le (by have := HLM.out; omega)] at h1
                  exact ⟨_, _, _, fun W => cut_items W _ L lc j (by omega), reads_items h1 (fun b e => hitV.own b (by rw [← e]; exact cut_block.symm))⟩
                have HREST := Lib.hid hrest
                have HCALL := Lib.hid hcall
                have HBV := Lib.hid hbv
                have HKN := Lib.hid hkn
                clear hbv hkn hhe hbwV hitV hcall hrest hML hd
                (try clear hq1 hq2 hjL hd2)
                (try clear hd2 hjL)
                (try clear hjL)
                go_upto_region 10 with fail
                go_region_law (first
                  | (go_simp; go_at_call 87; refine (HCALL.out _ ((Below.refl _ V).drew)).mono ?_; rintro e w5 ⟨sv5, ev5, kv5, rfl, hsh5, hb5⟩; obtain ⟨a51, n51, c51, a52, n52, c52, a53, n53, c53, he5⟩ := hsh5.slices; injection he5 with he51 he52; injection he52 with he52 he53; subst he51; subst he52; subst he53; have hb5' : Below V.heap.size V w5 := ((Below.refl _ V).drew).trans hb5; obtain ⟨v6, w6, hrun, hg6, hb6⟩ := shapes_more (fun b hb => by have := HF.out b hb; omega) HBV.out.low HBV.out.kids hb5' (hsh5.mono (fun b hb => by rcases hb with hb | hb; exact .inl hb; exact fresh_out HBV.out.kids HBV.out.low b ⟨hb.1, hb.2⟩)) (by have := HKN.out; omega); obtain ⟨a6, c6, rfl⟩ := hg6.slice; obtain ⟨n6, hn6⟩ : ∃ n6, ((ks.take i).map shG ++ [shG k]).length = n6 := ⟨_, rfl⟩; rw [hn6] at hrun hg6; obtain ⟨hbx6, hnx6, hbn6⟩ := HBV.out.next HF.out hg6 hb6; rw [HHE.out] at hrun; have d6 := cell4' hbx6 3 _ rfl; have f6 := fun j => frozen_of_row w6 (w.heap.size + 1) j _ _ hbx6; have c5 := cell_below hb5' hk3; have c5' := cell_below ((Below.refl _ w5).alloc (Nat.le_refl _) (.cells #[.slice a51 n51 c51, .bool hh, .slice a52 n52 c52, .slice a53 n53 c53] 88)) c5; have HNX := Lib.hid hnx6; have HBN := Lib.hid hbn6; clear hsh5 hb5 hb5' hg6 hb6 hn6 hbx6 hnx6 hbn6)
                  | (refine step_append_run _ (by rfl) _ _ _ _ (by rfl) _ _ (by rfl) (by rfl) _ _ hrun ?_))
                all_goals
                  obtain ⟨W7, hW7⟩ : ∃ W7, w6.setCell ⟨w.heap.size + 1, 3, none⟩ (.slice a6 n6 c6) = W7 := ⟨_, rfl⟩
                  have hnx := HNX.out
                  have hbn := HBN.out
                  rw [hW7] at hnx hbn ⊢
                  have HNX7 := Lib.hid hnx
                  have HBN7 := Lib.hid hbn
                  clear hnx hbn hW7 d6 f6 HNX HBN hrun c5 c5' hk3 hq5 hq6
                  go_wp2_with fail
                  go_roundg gk
                  case measure => omega
                  case rel => exact ⟨i + 1, _, by omega, HREST.out.keep (same_of_below HBN7.out HF.out), by rw [List.take_add_one, HKK.out, List.map_append]; exact HNX7.out⟩
    · have hn1 : 0 < n := by omega
      obtain ⟨e0, he0⟩ : ∃ e0, (entsL ks)[0]? = some e0 := ⟨_, List.getElem?_eq_getElem (by rw [hn]; omega)⟩
      have hne : 0 < e0.1.length := by
        obtain ⟨k', hk', he'⟩ := entsL_mem.1 (List.mem_of_getElem? he0)
        obtain ⟨r, h1, _⟩ := ents_mem he'
        rw [h1, List.length_append]
        have := List.length_pos_iff.2 (HFO.out.ne k' hk')
        omega
      obtain ⟨lb, lo, lc', hsl, _, _, _, _⟩ := items_some HL0.out (by rw [hn]; omega)
      injection hsl with hs1 hs2 hs3
      subst hs1; subst hs3; clear hs2
      obtain ⟨sv, _, p0, _, _, hst, _⟩ := items_one HL0.out he0
      rw [Nat.zero_mul, Nat.add_zero] at p0
      obtain ⟨a1, m1, c1, rfl, hm1⟩ : ∃ a m c, sv = .slice a m c ∧ m = e0.1.length := by obtain ⟨⟨_, a, c, e, _⟩, _⟩ := id hst; exact ⟨a, _, c, e, rfl⟩
      have hd0 : decide ((0 : Int) < (n : Int)) = true := decide_eq_true (by omega)
      have hq0 : (0 : Int) < (n : Int) := by omega
      have hd1 : ((m1 : Int) == 0) = false := by rw [beq_eq_false_iff_ne]; omega
      clear hn HL0 HST0 hx he0 hst hm1 hne hn0
      go_enter Tryz.func74, Tryz.ntmps74
      go_upto_region 2 with fail
      rw [HW0.out]
      go_wp2_with fail
      clear hd0 hd1 p0 hq0
      go_loopg [1] ks.length (fun g v1 wr => ∃ (i : Nat) (kv : Value), i + g = ks.length ∧ ItemsAt F wr v1 (entsL (ks.drop i)) ∧ StBox F w wr (.slice ea en ec) hr (.slice xa xn xc) kv ((ks.take i).map shG) es lv)
      case atStart => exact ⟨0, _, by omega, HIT.out, HST.out⟩
      case round =>
        obtain ⟨i, kv, hig, hit, hbx⟩ := hrel
        have HBX := Lib.hid hbx
        have HI := Lib.hid hit
        obtain ⟨la, lc, rfl, hlc, hlm⟩ := items_slice hit
        clear hbx hit
        cases gk with
        | zero =>
          obtain rfl : i = ks.length := by omega
          have hnil : entsL (ks.drop ks.length) = [] := by rw [List.drop_length]; rfl
          rw [hnil] at HI ⊢
          obtain ⟨ka, kc, rfl⟩ := HBX.out.kids.slice
          obtain ⟨kn, hkn⟩ : ∃ kn, ((ks.take ks.length).map shG).length = kn := ⟨_, rfl⟩
          rw [hkn] at HBX
          have z0 := cell4' HBX.out.box 0 _ rfl
          have z1 := cell4' HBX.out.box 1 _ rfl
          have z2 := cell4' HBX.out.box 2 _ rfl
          have z3 := cell4' HBX.out.box 3 _ rfl
          have t0 := cell4' HBX.out.res 0 _ rfl
          have t1 := cell4' HBX.out.res 1 _ rfl
          have t2 := cell4' HBX.out.res 2 _ rfl
          have t3 := cell4' HBX.out.res 3 _ rfl
          have tf := fun j => frozen_of_row wr w.heap.size j _ _ HBX.out.res
          have hd : decide ((0 : Int) < (([] : Items).length : Int)) = false := rfl
          go_wp2_with fail
          obtain ⟨W4, hW4⟩ : ∃ W4, (((wr.setCell ⟨w.heap.size, 0, none⟩ (.slice ea en ec)).setCell ⟨w.heap.size, 1, none⟩ (.bool hr)).setCell ⟨w.heap.size, 2, none⟩ (.slice xa xn xc)).setCell ⟨w.heap.size, 3, none⟩ (.slice ka kn kc) = W4 := ⟨_, rfl⟩
          obtain ⟨g4, b4, s4⟩ := set4 HBX.out.res hW4
          have o4 : ∀ k, k ≠ w.heap.size → W4.heap[k]? = wr.heap[k]? := fun k hk => by
            rw [← hW4]
            exact (heap_setCell_other _ _ _ _ hk).trans ((heap_setCell_other _ _ _ _ hk).trans ((heap_setCell_other _ _ _ _ hk).trans (heap_setCell_other _ _ _ _ hk)))
          rw [hW4]
          clear hW4 t0 t1 t2 t3 z0 z1 z2 z3
          have m0 := cell4' g4 0 _ rfl
          have m1 := cell4' g4 1 _ rfl
          have m2 := cell4' g4 2 _ rfl
          have m3 := cell4' g4 3 _ rfl
          refine bodyPost_ret (v := .agg #[.slice ea en ec, .bool hr, .slice xa xn xc, .slice ka kn kc]) (by simp [results, Tryz.results74, go_sem, m0, m1, m2, m3]) rfl ?_
          exact stBox_done HHR.out HES.out HF.out HBX.out o4 (b4 _ (Nat.le_refl _))
        | succ gk =>
          obtain ⟨k, hk⟩ : ∃ k, ks[i]? = some k := ⟨_, List.getElem?_eq_getElem (by omega)⟩
          have hmem := List.mem_of_getElem? hk
          have hdrop : ks.drop i = k :: ks.drop (i + 1) := by rw [List.drop_eq_getElem_cons (by omega)]; congr 1; exact (List.getElem?_eq_some_iff.1 hk).2
          rw [hdrop] at HI hlc ⊢
          obtain ⟨L, hL⟩ : ∃ L, (entsL (k :: ks.drop (i + 1))).length = L := ⟨_, rfl⟩
          obtain ⟨M, hM⟩ : ∃ M, (ents k).length = M := ⟨_, rfl⟩
          have hM1 : 1 ≤ M := by rw [← hM]; exact List.length_pos_iff.2 (HFO.out.ok k hmem).ents_ne
          have hLM : L = M + (entsL (ks.drop (i + 1))).length := by rw [← hL, entsL_cons, List.length_append, hM]
          have hML : M ≤ L := by omega
          have HLM := Lib.hid hLM
          clear hLM
          have hL6 : L ≤ 1000000 := by
            have h1 := HL6.out
            have h2 : (entsL (ks.drop i)).length ≤ (entsL ks).length := by
              have := entsL_app (ks.take i) (ks.drop i)
              rw [List.take_append_drop] at this
              rw [this, List.length_append]
              omega
            rw [hdrop, hL] at h2
            omega
          obtain ⟨b0, o0, c0, hsl, _, _, _, _⟩ := items_some HI.out (by rw [hL]; omega)
          injection hsl with hs1 hs2 hs3
          subst hs1; subst hs3; clear hs2
          rw [hL] at HI hlc ⊢
          obtain ⟨x, xs, hkl⟩ : ∃ x xs, k.lv = x :: xs := by
            cases h : k.lv with
            | nil => exact absurd h (HFO.out.ne k hmem)
            | cons x xs => exact ⟨x, xs, rfl⟩
          have hfk : Forest ltB (k :: ks.drop (i + 1)) := by
            have := HFO.out
            rw [← List.take_append_drop i ks, hdrop] at this
            exact (Forest.app (a := ks.take i) (b := k :: ks.drop (i + 1)) this).2.1
          have HFK := Lib.hid hfk
          have HKL := Lib.hid hkl
          have HM := Lib.hid hM
          have HL := Lib.hid hL
          have HKK := Lib.hid hk
          have hsub := fun (W : World) (v0 : Value) (hit : ItemsAt F W v0 (ents k)) (hFW : ∀ b, F b → b < W.heap.size) => (below_of (HFO.out.ok k hmem) (HLI.out.kid (k := k) hmem).1 (HLI.out.lv HFO.out hmem) (HFO.out.ne k hmem) (HLI.out.kid (k := k) hmem).2 (HIH.out k hmem) (F := F) (w := W) (v := v0) hit hFW)
          have HSUB := Lib.hid hsub
          have hd : decide ((0 : Int) < (L : Int)) = true := decide_eq_true (by omega)
          have hlen0 : ∀ e ∈ entsL (k :: ks.drop (i + 1)), ∃ y r, e.1 = y :: r := fun e he => by
            obtain ⟨k', hk', he'⟩ := entsL_mem.1 he
            obtain ⟨r, h1, _⟩ := ents_mem he'
            cases h2 : k'.lv with
            | nil => exact absurd h2 (hfk.ne k' hk')
            | cons y ys => exact ⟨y, ys ++ r, by rw [h1, h2]; rfl⟩
          have HLEN0 := Lib.hid hlen0
          obtain ⟨e0, he0⟩ : ∃ e0, (entsL (k :: ks.drop (i + 1)))[0]? = some e0 := ⟨_, List.getElem?_eq_getElem (by rw [hL]; omega)⟩
          have hx0 : ∃ r, e0.1 = x :: r := group_in hkl (i := 0) (by omega) (by unfold keys; rw [List.getElem?_map, he0]; rfl)
          have HE0 := Lib.hid he0
          clear hk hdrop hL hM hfk hkl hmem hlen0 hsub he0
          go_wp2_with fail
          rename World => wo
          go_loopg [6] (M - 1) (fun g v6 wi => ∃ j : Nat, j + g = M ∧ 1 ≤ j ∧ v6 = .int .i64 (j : Nat) ∧ Below wo.heap.size wo wi)
          case atStart => exact ⟨1, by omega, by omega, rfl, Below.refl _ _⟩
          case round =>
            obtain ⟨j, hjg, hj1, rfl, hbi⟩ := hrel
            have HBI := Lib.hid hbi
            have hI2 := HI.out.keep (Same.below hbi)
            obtain ⟨sv0, _, p0, _, _, hst0, _⟩ := items_one hI2 HE0.out
            rw [Nat.zero_mul, Nat.add_zero] at p0
            obtain ⟨a0, c00, rfl, hc0, hm0, hcc0⟩ := strs_at hst0
            obtain ⟨r0, hr0⟩ := hx0
            obtain ⟨sb0, so0, rfl, hcell0⟩ := hcc0 (by rw [hr0]; simp)
            have t0 := hcell0 0 x (by rw [hr0]; rfl)
            rw [Nat.add_zero] at t0
            obtain ⟨n0, hn0⟩ : ∃ n0, e0.1.length = n0 := ⟨_, rfl⟩
            have hn01 : (0 : Int) < (n0 : Int) := by rw [← hn0, hr0]; simp <;> omega
            rw [hn0] at p0 hc0
            clear hst0 hcell0 hcc0 hbi hn0
            cases gk with
            | succ gk =>
              have hjL : decide ((j : Int) < (L : Int)) = true := decide_eq_true (by omega)
              have hq1 : (0 : Int) ≤ (j : Int) := by omega
              have hq2 : (j : Int) < (L : Int) := by omega
              obtain ⟨e1, he1⟩ : ∃ e1, (entsL (k :: ks.drop (i + 1)))[j]? = some e1 := ⟨_, List.getElem?_eq_getElem (by rw [HL.out]; omega)⟩
              obtain ⟨r1, hr1⟩ : ∃ r, e1.1 = x :: r := group_in HKL.out (i := j) (by rw [HM.out]; omega) (by unfold keys; rw [List.getElem?_map, he1]; rfl)
              obtain ⟨sv1, _, p1, _, _, hst1, _⟩ := items_one hI2 he1
              obtain ⟨a1, c01, rfl, hc1, hm1, hcc1⟩ := strs_at hst1
              obtain ⟨sb1, so1, rfl, hcell1⟩ := hcc1 (by rw [hr1]; simp)
              have t1 := hcell1 0 x (by rw [hr1]; rfl)
              rw [Nat.add_zero] at t1
              obtain ⟨n1, hn1⟩ : ∃ n1, e1.1.length = n1 := ⟨_, rfl⟩
              have hn11 : (0 : Int) < (n1 : Int) := by rw [← hn1, hr1]; simp <;> omega
              rw [hn1] at p1 hc1
              have heq : (x.toList == x.toList) = true := by simp
              clear hst1 hcell1 hcc1 hI2 he1 hr1 hn1
              go_wp2_with fail
              go_quiet (fail)
              have hxx := HBI.out.trans ((below_drew wr nq).mono HBI.out.size)
              have HX := Lib.hid hxx
              clear hxx
              generalize wr.drewN nq = V at HX ⊢
              go_wp2_with fail
              go_roundg gk
              case measure => omega
              case rel => exact ⟨j + 1, by omega, by omega, by go_num, HX.out⟩
            | zero =>
              obtain rfl : j = M := by omega
              by_cases hjL : j < L
              · have hd2 : decide ((j : Int) < (L : Int)) = true := decide_eq_true (by omega)
                have hq1 : (0 : Int) ≤ (j : Int) := by omega
                have hq2 : (j : Int) < (L : Int) := by omega
                obtain ⟨e1, he1⟩ : ∃ e1, (entsL (k :: ks.drop (i + 1)))[j]? = some e1 := ⟨_, List.getElem?_eq_getElem (by rw [HL.out]; omega)⟩
                obtain ⟨y, r1, hr1, hyx⟩ : ∃ y r, e1.1 = y :: r ∧ y ≠ x := group_out linB HFK.out HKL.out (by rw [HM.out]; unfold keys; rw [List.getElem?_map, he1]; rfl)
                obtain ⟨sv1, _, p1, _, _, hst1, _⟩ := items_one hI2 he1
                obtain ⟨a1, c01, rfl, hc1, hm1, hcc1⟩ := strs_at hst1
                obtain ⟨sb1, so1, rfl, hcell1⟩ := hcc1 (by rw [hr1]; simp)
                have t1 := hcell1 0 y (by rw [hr1]; rfl)
                rw [Nat.add_zero] at t1
                obtain ⟨n1, hn1⟩ : ∃ n1, e1.1.length = n1 := ⟨_, rfl⟩
                have hn11 : (0 : Int) < (n1 : Int) := by rw [← hn1, hr1]; simp <;> omega
                rw [hn1] at p1 hc1
                have heq : (y.toList == x.toList) = false := by
                  rw [beq_eq_false_iff_ne]
                  exact fun e => hyx (ba_ext (by rwa [Lib.toList_data, Lib.toList_data] at e))
                clear hst1 hcell1 hcc1 hI2 he1 hr1 hn1
                go_wp2_with fail
                go_quiet (fail)
                have hxx := HBI.out.trans ((below_drew wr nq).mono HBI.out.size)
                have HX := Lib.hid hxx
                clear hxx t0 t1 p0 p1
                generalize wr.drewN nq = V at HX ⊢
                have hbv := HBX.out.move HF.out HX.out
                obtain ⟨ka, kc, rfl⟩ := hbv.kids.slice
                have hkn : ((ks.take i).map shG).length = i := by rw [List.length_map, List.length_take]; omega
                rw [hkn] at hbv
                have hk3 := cell4' hbv.box 3 _ rfl
                have hq5 : (j : Int) ≤ (lc : Int) := by omega
                have hq6 : ¬ lc = 0 := by omega
                have hi6 : i ≤ 1000000 := by have := entsL_many HFO.out; have := HL6.out; omega
                obtain ⟨hh, hhe⟩ : ∃ hh, (shG k).here = hh := ⟨_, rfl⟩
                have HHE := Lib.hid hhe
                have hbwV := HX.out
                have hitV := HI.out.keep (Same.below hbwV)
                have hcall : ∀ W, Below V.heap.size V W → Calls Tryz.prog 87 #[.slice (some ⟨b0, o0, none⟩) j lc] W fun e w' => ∃ ev ev2 kv, e = .returned (.agg #[ev, .bool hh, ev2, kv]) ∧ ShAt (Since F W w') w' (ev, ev2, kv) (shG k) ∧ Below W.heap.size W w' := fun W hb => by
                  rw [← HHE.out]
                  refine HSUB.out W _ ?_ (fun b hbF => by have := HF.out b hbF; have := hbv.low; have := hb.size; omega)
                  have h0 := (hitV.keep (Same.below hb)).reads.part eltItem (by decide) (i := 0) (m := j) (by rw [HL.out]; omega)
                  rw [List.drop_zero, Nat.zero_mul, Nat.add_zero, Nat.sub_zero, entsL_cons, ← HM.out, List.take_left] at h0
                  rw [HM.out] at h0
                  exact reads_items h0 (fun b e => hitV.own b e)
                obtain ⟨a9', n9', c9', hcutL, hrest⟩ : ∃ a9 n9 c9, (∀ W, (Instr.slice 111 (.slice (some ⟨b0, o0, none⟩) L lc) (some (.int .i64 (j : Nat))) none none).run Tryz.prog W = .ok (.slice a9 n9 c9) W) ∧ ItemsAt F V (.slice a9 n9 c9) (entsL (ks.drop (i + 1))) := by
                  have h1 := hitV.reads.cut eltItem (by decide) (i := j) (m := L - j) (by rw [HL.out]; omega)
                  rw [entsL_cons, ← HM.out, List.drop_left, HM.out, List.take_of_length_le (by have := HLM.out; omega)] at h1
                  exact ⟨_, _, _, fun W => cut_items W _ L lc j (by omega), reads_items h1 (fun b e => hitV.own b (by rw [← e]; exact cut_block.symm))⟩
                have HREST := Lib.hid hrest
                have HCALL := Lib.hid hcall
                have HBV := Lib.hid hbv
                have HKN := Lib.hid hkn
                clear hbv hkn hhe hbwV hitV hcall hrest hML hd
                (try clear hq1 hq2 hjL hd2)
                (try clear hd2 hjL)
                (try clear hjL)
                go_upto_region 10 with fail
                go_region_law (first
                  | (go_simp; go_at_call 87; refine (HCALL.out _ ((Below.refl _ V).drew)).mono ?_; rintro e w5 ⟨sv5, ev5, kv5, rfl, hsh5, hb5⟩; obtain ⟨a51, n51, c51, a52, n52, c52, a53, n53, c53, he5⟩ := hsh5.slices; injection he5 with he51 he52; injection he52 with he52 he53; subst he51; subst he52; subst he53; have hb5' : Below V.heap.size V w5 := ((Below.refl _ V).drew).trans hb5; obtain ⟨v6, w6, hrun, hg6, hb6⟩ := shapes_more (fun b hb => by have := HF.out b hb; omega) HBV.out.low HBV.out.kids hb5' (hsh5.mono (fun b hb => by rcases hb with hb | hb; exact .inl hb; exact fresh_out HBV.out.kids HBV.out.low b ⟨hb.1, hb.2⟩)) (by have := HKN.out; omega); obtain ⟨a6, c6, rfl⟩ := hg6.slice; obtain ⟨n6, hn6⟩ : ∃ n6, ((ks.take i).map shG ++ [shG k]).length = n6 := ⟨_, rfl⟩; rw [hn6] at hrun hg6; obtain ⟨hbx6, hnx6, hbn6⟩ := HBV.out.next HF.out hg6 hb6; rw [HHE.out] at hrun; have d6 := cell4' hbx6 3 _ rfl; have f6 := fun j => frozen_of_row w6 (w.heap.size + 1) j _ _ hbx6; have c5 := cell_below hb5' hk3; have c5' := cell_below ((Below.refl _ w5).alloc (Nat.le_refl _) (.cells #[.slice a51 n51 c51, .bool hh, .slice a52 n52 c52, .slice a53 n53 c53] 88)) c5; have HNX := Lib.hid hnx6; have HBN := Lib.hid hbn6; clear hsh5 hb5 hb5' hg6 hb6 hn6 hbx6 hnx6 hbn6)
                  | (refine step_append_run _ (by rfl) _ _ _ _ (by rfl) _ _ (by rfl) (by rfl) _ _ hrun ?_))
                all_goals
                  obtain ⟨W7, hW7⟩ : ∃ W7, w6.setCell ⟨w.heap.size + 1, 3, none⟩ (.slice a6 n6 c6) = W7 := ⟨_, rfl⟩
                  have hnx := HNX.out
                  have hbn := HBN.out
                  rw [hW7] at hnx hbn ⊢
                  have HNX7 := Lib.hid hnx
                  have HBN7 := Lib.hid hbn
                  clear hnx hbn hW7 d6 f6 HNX HBN hrun c5 c5' hk3 hq5 hq6
                  go_wp2_with fail
                  go_roundg gk
                  case measure => omega
                  case rel => exact ⟨i + 1, _, by omega, HREST.out.keep (same_of_below HBN7.out HF.out), by rw [List.take_add_one, HKK.out, List.map_append]; exact HNX7.out⟩
              · have hd2 : decide ((j : Int) < (L : Int)) = false := decide_eq_false (by omega)
                go_wp2_with fail
                go_quiet (fail)
                have hxx := HBI.out.trans ((below_drew wr nq).mono HBI.out.size)
                have HX := Lib.hid hxx
                clear hxx t0 p0
                generalize wr.drewN nq = V at HX ⊢
                have hbv := HBX.out.move HF.out HX.out
                obtain ⟨ka, kc, rfl⟩ := hbv.kids.slice
                have hkn : ((ks.take i).map shG).length = i := by rw [List.length_map, List.length_take]; omega
                rw [hkn] at hbv
                have hk3 := cell4' hbv.box 3 _ rfl
                have hq5 : (j : Int) ≤ (lc : Int) := by omega
                have hq6 : ¬ lc = 0 := by omega
                have hi6 : i ≤ 1000000 := by have := entsL_many HFO.out; have := HL6.out; omega
                obtain ⟨hh, hhe⟩ : ∃ hh, (shG k).here = hh := ⟨_, rfl⟩
                have HHE := Lib.hid hhe
                have hbwV := HX.out
                have hitV := HI.out.keep (Same.below hbwV)
                have hcall : ∀ W, Below V.heap.size V W → Calls Tryz.prog 87 #[.slice (some ⟨b0, o0, none⟩) j lc] W fun e w' => ∃ ev ev2 kv, e = .returned (.agg #[ev, .bool hh, ev2, kv]) ∧ ShAt (Since F W w') w' (ev, ev2, kv) (shG k) ∧ Below W.heap.size W w' := fun W hb => by
                  rw [← HHE.out]
                  refine HSUB.out W _ ?_ (fun b hbF => by have := HF.out b hbF; have := hbv.low; have := hb.size; omega)
                  have h0 := (hitV.keep (Same.below hb)).reads.part eltItem (by decide) (i := 0) (m := j) (by rw [HL.out]; omega)
                  rw [List.drop_zero, Nat.zero_mul, Nat.add_zero, Nat.sub_zero, entsL_cons, ← HM.out, List.take_left] at h0
                  rw [HM.out] at h0
                  exact reads_items h0 (fun b e => hitV.own b e)
                obtain ⟨a9', n9', c9', hcutL, hrest⟩ : ∃ a9 n9 c9, (∀ W, (Instr.slice 111 (.slice (some ⟨b0, o0, none⟩) L lc) (some (.int .i64 (j : Nat))) none none).run Tryz.prog W = .ok (.slice a9 n9 c9) W) ∧ ItemsAt F V (.slice a9 n9 c9) (entsL (ks.drop (i + 1))) := by
                  have h1 := hitV.reads.cut eltItem (by decide) (i := j) (m := L - j) (by rw [HL.out]; omega)
                  rw [entsL_cons, ← HM.out, List.drop_left, HM.out, List.take_of_length_le (by have := HLM.out; omega)] at h1
                  exact ⟨_, _, _, fun W => cut_items W _ L lc j (by omega), reads_items h1 (fun b e => hitV.own b (by rw [← e]; exact cut_block.symm))⟩
                have HREST := Lib.hid hrest
                have HCALL := Lib.hid hcall
                have HBV := Lib.hid hbv
                have HKN := Lib.hid hkn
                clear hbv hkn hhe hbwV hitV hcall hrest hML hd
                (try clear hq1 hq2 hjL hd2)
                (try clear hd2 hjL)
                (try clear hjL)
                go_upto_region 10 with fail
                go_region_law (first
                  | (go_simp; go_at_call 87; refine (HCALL.out _ ((Below.refl _ V).drew)).mono ?_; rintro e w5 ⟨sv5, ev5, kv5, rfl, hsh5, hb5⟩; obtain ⟨a51, n51, c51, a52, n52, c52, a53, n53, c53, he5⟩ := hsh5.slices; injection he5 with he51 he52; injection he52 with he52 he53; subst he51; subst he52; subst he53; have hb5' : Below V.heap.size V w5 := ((Below.refl _ V).drew).trans hb5; obtain ⟨v6, w6, hrun, hg6, hb6⟩ := shapes_more (fun b hb => by have := HF.out b hb; omega) HBV.out.low HBV.out.kids hb5' (hsh5.mono (fun b hb => by rcases hb with hb | hb; exact .inl hb; exact fresh_out HBV.out.kids HBV.out.low b ⟨hb.1, hb.2⟩)) (by have := HKN.out; omega); obtain ⟨a6, c6, rfl⟩ := hg6.slice; obtain ⟨n6, hn6⟩ : ∃ n6, ((ks.take i).map shG ++ [shG k]).length = n6 := ⟨_, rfl⟩; rw [hn6] at hrun hg6; obtain ⟨hbx6, hnx6, hbn6⟩ := HBV.out.next HF.out hg6 hb6; rw [HHE.out] at hrun; have d6 := cell4' hbx6 3 _ rfl; have f6 := fun j => frozen_of_row w6 (w.heap.size + 1) j _ _ hbx6; have c5 := cell_below hb5' hk3; have c5' := cell_below ((Below.refl _ w5).alloc (Nat.le_refl _) (.cells #[.slice a51 n51 c51, .bool hh, .slice a52 n52 c52, .slice a53 n53 c53] 88)) c5; have HNX := Lib.hid hnx6; have HBN := Lib.hid hbn6; clear hsh5 hb5 hb5' hg6 hb6 hn6 hbx6 hnx6 hbn6)
                  | (refine step_append_run _ (by rfl) _ _ _ _ (by rfl) _ _ (by rfl) (by rfl) _ _ hrun ?_))
                all_goals
                  obtain ⟨W7, hW7⟩ : ∃ W7, w6.setCell ⟨w.heap.size + 1, 3, none⟩ (.slice a6 n6 c6) = W7 := ⟨_, rfl⟩
                  have hnx := HNX.out
                  have hbn := HBN.out
                  rw [hW7] at hnx hbn ⊢
                  have HNX7 := Lib.hid hnx
                  have HBN7 := Lib.hid hbn
                  clear hnx hbn hW7 d6 f6 HNX HBN hrun c5 c5' hk3 hq5 hq6
                  go_wp2_with fail
                  go_roundg gk
                  case measure => omega
                  case rel => exact ⟨i + 1, _, by omega, HREST.out.keep (same_of_below HBN7.out HF.out), by rw [List.take_add_one, HKK.out, List.map_append]; exact HNX7.out⟩
  | some it =>
    have hbody : body (Tr.node lv (some it) ks : ItTree) = ([], it) :: entsL ks := rfl
    have hhr : hr = it.1 := HHR.out.symm
    have hes : es = it.2 := HES.out.symm
    rw [hbody] at HL0 hn
    have hn1 : n = (entsL ks).length + 1 := by rw [← hn]; rfl
    obtain ⟨lb, lo, lc', hsl, _, _, _, _⟩ := items_some HL0.out (by simp)
    injection hsl with hs1 hs2 hs3
    subst hs1; subst hs3; clear hs2
    obtain ⟨sv, xv, p0, p1, p2, hst, hen⟩ := items_one HL0.out (i := 0) (e := ([], it)) rfl
    rw [Nat.zero_mul, Nat.add_zero] at p0
    rw [Nat.zero_mul, Nat.zero_add] at p1 p2
    rw [show (([], it) : List ByteArray × ItemV).2.1 = it.1 from rfl, ← hhr] at p1
    obtain ⟨a1, c1, rfl⟩ : ∃ a c, sv = .slice a 0 c := by obtain ⟨⟨_, a, c, e, _⟩, _⟩ := id hst; exact ⟨a, c, e⟩
    obtain ⟨xa, xn, xc, rfl⟩ : ∃ a n c, xv = .slice a n c := by obtain ⟨⟨_, a, c, e, _⟩, _⟩ := id hen; exact ⟨a, _, c, e⟩
    have hd0 : decide ((0 : Int) < (n : Int)) = true := decide_eq_true (by omega)
    have hq0 : (0 : Int) < (n : Int) := by omega
    obtain ⟨a9, n9, c9, hcut, hit⟩ : ∃ a9 n9 c9, (∀ W, (Instr.slice 111 (.slice (some ⟨lb, lo, none⟩) n lc) (some (.int .i64 1)) none none).run Tryz.prog W = .ok (.slice a9 n9 c9) W) ∧ ItemsAt F W0 (.slice a9 n9 c9) (entsL ks) := by
      have h1 := HL0.out.reads.cut eltItem (by decide) (i := 1) (m := (entsL ks).length) (by simp; omega)
      have h2 : ((([], it) :: entsL ks : Items).drop 1).take (entsL ks).length = entsL ks := by simp
      rw [h2] at h1
      exact ⟨_, _, _, fun W => cut_items W _ n lc 1 (by omega), by
        rw [show n - 1 = (entsL ks).length by omega]
        exact reads_items h1 (fun b e => HL0.out.own b (by rw [← e]; exact cut_block.symm))⟩
    obtain ⟨W1, hW1⟩ : ∃ W1, W0.setCell ⟨w.heap.size + 1, 1, none⟩ (.bool hr) = W1 := ⟨_, rfl⟩
    obtain ⟨W2, hW2⟩ : ∃ W2, W1.setCell ⟨w.heap.size + 1, 2, none⟩ (.slice xa xn xc) = W2 := ⟨_, rfl⟩
    have gb0 := HST0.out.box
    have gb1 : W1.heap[w.heap.size + 1]? = some (.cells #[.slice ea en ec, .bool hr, .slice none 0 0, .slice none 0 0] 88 (0, 0)) := by rw [← hW1]; exact heap_setCell_same _ _ _ _ _ _ gb0
    have gb2 : W2.heap[w.heap.size + 1]? = some (.cells #[.slice ea en ec, .bool hr, .slice xa xn xc, .slice none 0 0] 88 (0, 0)) := by rw [← hW2]; exact heap_setCell_same _ _ _ _ _ _ gb1
    have hb1 : Below w.heap.size w W1 := by rw [← hW1]; exact HB0.out.setCell (p := ⟨w.heap.size + 1, 1, none⟩) (by simp) _
    have hb2 : Below w.heap.size w W2 := by rw [← hW2]; exact hb1.setCell (p := ⟨w.heap.size + 1, 2, none⟩) (by simp) _
    have hs1 : W1.heap.size = W0.heap.size := by rw [← hW1]; simp [World.setCell]
    have hs2 : W2.heap.size = W0.heap.size := by rw [← hW2]; simp [World.setCell, hs1]
    have ho1 : ∀ k, k ≠ w.heap.size + 1 → W1.heap[k]? = W0.heap[k]? := fun k hk => by rw [← hW1]; exact heap_setCell_other _ _ _ _ hk
    have ho2 : ∀ k, k ≠ w.heap.size + 1 → W2.heap[k]? = W0.heap[k]? := fun k hk => by rw [← hW2]; exact (heap_setCell_other _ _ _ _ hk).trans (ho1 k hk)
    have hsame : Same F W0 W2 := fun k _ hk => ho2 k (by have := HF.out k hk; omega)
    have hsame1 : ∀ {k o : Nat} {u : Value}, F k → W0.cell? ⟨k, o, none⟩ = some u → W1.cell? ⟨k, o, none⟩ = some u := fun {k o u} hk hc => by
      rw [← hc]
      exact World.cell?_of_block (w := W0) (a := ⟨k, o, none⟩) (ho1 k (by have := HF.out k hk; omega))
    have hlF : F lb := HL0.out.own lb rfl
    have p2' := hsame1 hlF p2
    have q1 := cell4' gb0 1 _ rfl
    have f1 := frozen_of_row W0 (w.heap.size + 1) 1 _ _ gb0
    have q2 := cell4' gb1 2 _ rfl
    have f2 := frozen_of_row W1 (w.heap.size + 1) 2 _ _ gb1
    have HST : Hid (StBox F w W2 (.slice ea en ec) hr (.slice xa xn xc) (.slice none 0 0) [] es lv) := Lib.hid (by
      have h0 := HST0.out
      exact ⟨gb2, (ho2 _ (by omega)).trans h0.res, Gro.start eltSh (fun b hb => by have := HF.out b hb; omega), by rw [hes]; exact RowF.keep hen hsame, RowF.keep h0.lvs hsame, hb2, by have := h0.low; omega⟩)
    have HIT := Lib.hid (hit.keep hsame)
    clear hn HL0 HST0 hst hen hit gb0 gb1 gb2 hb1 hb2 ho1 ho2 hsame hsame1 hs1 hs2 p2 hhr hes
    go_enter Tryz.func74, Tryz.ntmps74
    go_upto_region 2 with fail
    rw [HW0.out]
    go_upto_region 3 with fail
    go_upto_region 4 with fail
    (try rw [hW1])
    go_upto_region 5 with fail
    (try rw [hW2])
    clear hd0 hq0 p0 p1 p2' q1 f1 q2 f2 hn1
    go_wp2_with fail
    clear hcut
    go_loopg [1] ks.length (fun g v1 wr => ∃ (i : Nat) (kv : Value), i + g = ks.length ∧ ItemsAt F wr v1 (entsL (ks.drop i)) ∧ StBox F w wr (.slice ea en ec) hr (.slice xa xn xc) kv ((ks.take i).map shG) es lv)
    case atStart => exact ⟨0, _, by omega, HIT.out, HST.out⟩
    case round =>
      obtain ⟨i, kv, hig, hit, hbx⟩ := hrel
      have HBX := Lib.hid hbx
      have HI := Lib.hid hit
      obtain ⟨la, lc, rfl, hlc, hlm⟩ := items_slice hit
      clear hbx hit
      cases gk with
      | zero =>
        obtain rfl : i = ks.length := by omega
        have hnil : entsL (ks.drop ks.length) = [] := by rw [List.drop_length]; rfl
        rw [hnil] at HI ⊢
        obtain ⟨ka, kc, rfl⟩ := HBX.out.kids.slice
        obtain ⟨kn, hkn⟩ : ∃ kn, ((ks.take ks.length).map shG).length = kn := ⟨_, rfl⟩
        rw [hkn] at HBX
        have z0 := cell4' HBX.out.box 0 _ rfl
        have z1 := cell4' HBX.out.box 1 _ rfl
        have z2 := cell4' HBX.out.box 2 _ rfl
        have z3 := cell4' HBX.out.box 3 _ rfl
        have t0 := cell4' HBX.out.res 0 _ rfl
        have t1 := cell4' HBX.out.res 1 _ rfl
        have t2 := cell4' HBX.out.res 2 _ rfl
        have t3 := cell4' HBX.out.res 3 _ rfl
        have tf := fun j => frozen_of_row wr w.heap.size j _ _ HBX.out.res
        have hd : decide ((0 : Int) < (([] : Items).length : Int)) = false := rfl
        go_wp2_with fail
        obtain ⟨W4, hW4⟩ : ∃ W4, (((wr.setCell ⟨w.heap.size, 0, none⟩ (.slice ea en ec)).setCell ⟨w.heap.size, 1, none⟩ (.bool hr)).setCell ⟨w.heap.size, 2, none⟩ (.slice xa xn xc)).setCell ⟨w.heap.size, 3, none⟩ (.slice ka kn kc) = W4 := ⟨_, rfl⟩
        obtain ⟨g4, b4, s4⟩ := set4 HBX.out.res hW4
        have o4 : ∀ k, k ≠ w.heap.size → W4.heap[k]? = wr.heap[k]? := fun k hk => by
          rw [← hW4]
          exact (heap_setCell_other _ _ _ _ hk).trans ((heap_setCell_other _ _ _ _ hk).trans ((heap_setCell_other _ _ _ _ hk).trans (heap_setCell_other _ _ _ _ hk)))
        rw [hW4]
        clear hW4 t0 t1 t2 t3 z0 z1 z2 z3
        have m0 := cell4' g4 0 _ rfl
        have m1 := cell4' g4 1 _ rfl
        have m2 := cell4' g4 2 _ rfl
        have m3 := cell4' g4 3 _ rfl
        refine bodyPost_ret (v := .agg #[.slice ea en ec, .bool hr, .slice xa xn xc, .slice ka kn kc]) (by simp [results, Tryz.results74, go_sem, m0, m1, m2, m3]) rfl ?_
        exact stBox_done HHR.out HES.out HF.out HBX.out o4 (b4 _ (Nat.le_refl _))
      | succ gk =>
        obtain ⟨k, hk⟩ : ∃ k, ks[i]? = some k := ⟨_, List.getElem?_eq_getElem (by omega)⟩
        have hmem := List.mem_of_getElem? hk
        have hdrop : ks.drop i = k :: ks.drop (i + 1) := by rw [List.drop_eq_getElem_cons (by omega)]; congr 1; exact (List.getElem?_eq_some_iff.1 hk).2
        rw [hdrop] at HI hlc ⊢
        obtain ⟨L, hL⟩ : ∃ L, (entsL (k :: ks.drop (i + 1))).length = L := ⟨_, rfl⟩
        obtain ⟨M, hM⟩ : ∃ M, (ents k).length = M := ⟨_, rfl⟩
        have hM1 : 1 ≤ M := by rw [← hM]; exact List.length_pos_iff.2 (HFO.out.ok k hmem).ents_ne
        have hLM : L = M + (entsL (ks.drop (i + 1))).length := by rw [← hL, entsL_cons, List.length_append, hM]
        have hML : M ≤ L := by omega
        have HLM := Lib.hid hLM
        clear hLM
        have hL6 : L ≤ 1000000 := by
          have h1 := HL6.out
          have h2 : (entsL (ks.drop i)).length ≤ (entsL ks).length := by
            have := entsL_app (ks.take i) (ks.drop i)
            rw [List.take_append_drop] at this
            rw [this, List.length_append]
            omega
          rw [hdrop, hL] at h2
          omega
        obtain ⟨b0, o0, c0, hsl, _, _, _, _⟩ := items_some HI.out (by rw [hL]; omega)
        injection hsl with hs1 hs2 hs3
        subst hs1; subst hs3; clear hs2
        rw [hL] at HI hlc ⊢
        obtain ⟨x, xs, hkl⟩ : ∃ x xs, k.lv = x :: xs := by
          cases h : k.lv with
          | nil => exact absurd h (HFO.out.ne k hmem)
          | cons x xs => exact ⟨x, xs, rfl⟩
        have hfk : Forest ltB (k :: ks.drop (i + 1)) := by
          have := HFO.out
          rw [← List.take_append_drop i ks, hdrop] at this
          exact (Forest.app (a := ks.take i) (b := k :: ks.drop (i + 1)) this).2.1
        have HFK := Lib.hid hfk
        have HKL := Lib.hid hkl
        have HM := Lib.hid hM
        have HL := Lib.hid hL
        have HKK := Lib.hid hk
        have hsub := fun (W : World) (v0 : Value) (hit : ItemsAt F W v0 (ents k)) (hFW : ∀ b, F b → b < W.heap.size) => (below_of (HFO.out.ok k hmem) (HLI.out.kid (k := k) hmem).1 (HLI.out.lv HFO.out hmem) (HFO.out.ne k hmem) (HLI.out.kid (k := k) hmem).2 (HIH.out k hmem) (F := F) (w := W) (v := v0) hit hFW)
        have HSUB := Lib.hid hsub
        have hd : decide ((0 : Int) < (L : Int)) = true := decide_eq_true (by omega)
        have hlen0 : ∀ e ∈ entsL (k :: ks.drop (i + 1)), ∃ y r, e.1 = y :: r := fun e he => by
          obtain ⟨k', hk', he'⟩ := entsL_mem.1 he
          obtain ⟨r, h1, _⟩ := ents_mem he'
          cases h2 : k'.lv with
          | nil => exact absurd h2 (hfk.ne k' hk')
          | cons y ys => exact ⟨y, ys ++ r, by rw [h1, h2]; rfl⟩
        have HLEN0 := Lib.hid hlen0
        obtain ⟨e0, he0⟩ : ∃ e0, (entsL (k :: ks.drop (i + 1)))[0]? = some e0 := ⟨_, List.getElem?_eq_getElem (by rw [hL]; omega)⟩
        have hx0 : ∃ r, e0.1 = x :: r := group_in hkl (i := 0) (by omega) (by unfold keys; rw [List.getElem?_map, he0]; rfl)
        have HE0 := Lib.hid he0
        clear hk hdrop hL hM hfk hkl hmem hlen0 hsub he0
        go_wp2_with fail
        rename World => wo
        go_loopg [6] (M - 1) (fun g v6 wi => ∃ j : Nat, j + g = M ∧ 1 ≤ j ∧ v6 = .int .i64 (j : Nat) ∧ Below wo.heap.size wo wi)
        case atStart => exact ⟨1, by omega, by omega, rfl, Below.refl _ _⟩
        case round =>
          obtain ⟨j, hjg, hj1, rfl, hbi⟩ := hrel
          have HBI := Lib.hid hbi
          have hI2 := HI.out.keep (Same.below hbi)
          obtain ⟨sv0, _, p0, _, _, hst0, _⟩ := items_one hI2 HE0.out
          rw [Nat.zero_mul, Nat.add_zero] at p0
          obtain ⟨a0, c00, rfl, hc0, hm0, hcc0⟩ := strs_at hst0
          obtain ⟨r0, hr0⟩ := hx0
          obtain ⟨sb0, so0, rfl, hcell0⟩ := hcc0 (by rw [hr0]; simp)
          have t0 := hcell0 0 x (by rw [hr0]; rfl)
          rw [Nat.add_zero] at t0
          obtain ⟨n0, hn0⟩ : ∃ n0, e0.1.length = n0 := ⟨_, rfl⟩
          have hn01 : (0 : Int) < (n0 : Int) := by rw [← hn0, hr0]; simp <;> omega
          rw [hn0] at p0 hc0
          clear hst0 hcell0 hcc0 hbi hn0
          cases gk with
          | succ gk =>
            have hjL : decide ((j : Int) < (L : Int)) = true := decide_eq_true (by omega)
            have hq1 : (0 : Int) ≤ (j : Int) := by omega
            have hq2 : (j : Int) < (L : Int) := by omega
            obtain ⟨e1, he1⟩ : ∃ e1, (entsL (k :: ks.drop (i + 1)))[j]? = some e1 := ⟨_, List.getElem?_eq_getElem (by rw [HL.out]; omega)⟩
            obtain ⟨r1, hr1⟩ : ∃ r, e1.1 = x :: r := group_in HKL.out (i := j) (by rw [HM.out]; omega) (by unfold keys; rw [List.getElem?_map, he1]; rfl)
            obtain ⟨sv1, _, p1, _, _, hst1, _⟩ := items_one hI2 he1
            obtain ⟨a1, c01, rfl, hc1, hm1, hcc1⟩ := strs_at hst1
            obtain ⟨sb1, so1, rfl, hcell1⟩ := hcc1 (by rw [hr1]; simp)
            have t1 := hcell1 0 x (by rw [hr1]; rfl)
            rw [Nat.add_zero] at t1
            obtain ⟨n1, hn1⟩ : ∃ n1, e1.1.length = n1 := ⟨_, rfl⟩
            have hn11 : (0 : Int) < (n1 : Int) := by rw [← hn1, hr1]; simp <;> omega
            rw [hn1] at p1 hc1
            have heq : (x.toList == x.toList) = true := by simp
            clear hst1 hcell1 hcc1 hI2 he1 hr1 hn1
            go_wp2_with fail
            go_quiet (fail)
            have hxx := HBI.out.trans ((below_drew wr nq).mono HBI.out.size)
            have HX := Lib.hid hxx
            clear hxx
            generalize wr.drewN nq = V at HX ⊢
            go_wp2_with fail
            go_roundg gk
            case measure => omega
            case rel => exact ⟨j + 1, by omega, by omega, by go_num, HX.out⟩
          | zero =>
            obtain rfl : j = M := by omega
            by_cases hjL : j < L
            · have hd2 : decide ((j : Int) < (L : Int)) = true := decide_eq_true (by omega)
              have hq1 : (0 : Int) ≤ (j : Int) := by omega
              have hq2 : (j : Int) < (L : Int) := by omega
              obtain ⟨e1, he1⟩ : ∃ e1, (entsL (k :: ks.drop (i + 1)))[j]? = some e1 := ⟨_, List.getElem?_eq_getElem (by rw [HL.out]; omega)⟩
              obtain ⟨y, r1, hr1, hyx⟩ : ∃ y r, e1.1 = y :: r ∧ y ≠ x := group_out linB HFK.out HKL.out (by rw [HM.out]; unfold keys; rw [List.getElem?_map, he1]; rfl)
              obtain ⟨sv1, _, p1, _, _, hst1, _⟩ := items_one hI2 he1
              obtain ⟨a1, c01, rfl, hc1, hm1, hcc1⟩ := strs_at hst1
              obtain ⟨sb1, so1, rfl, hcell1⟩ := hcc1 (by rw [hr1]; simp)
              have t1 := hcell1 0 y (by rw [hr1]; rfl)
              rw [Nat.add_zero] at t1
              obtain ⟨n1, hn1⟩ : ∃ n1, e1.1.length = n1 := ⟨_, rfl⟩
              have hn11 : (0 : Int) < (n1 : Int) := by rw [← hn1, hr1]; simp <;> omega
              rw [hn1] at p1 hc1
              have heq : (y.toList == x.toList) = false := by
                rw [beq_eq_false_iff_ne]
                exact fun e => hyx (ba_ext (by rwa [Lib.toList_data, Lib.toList_data] at e))
              clear hst1 hcell1 hcc1 hI2 he1 hr1 hn1
              go_wp2_with fail
              go_quiet (fail)
              have hxx := HBI.out.trans ((below_drew wr nq).mono HBI.out.size)
              have HX := Lib.hid hxx
              clear hxx t0 t1 p0 p1
              generalize wr.drewN nq = V at HX ⊢
              have hbv := HBX.out.move HF.out HX.out
              obtain ⟨ka, kc, rfl⟩ := hbv.kids.slice
              have hkn : ((ks.take i).map shG).length = i := by rw [List.length_map, List.length_take]; omega
              rw [hkn] at hbv
              have hk3 := cell4' hbv.box 3 _ rfl
              have hq5 : (j : Int) ≤ (lc : Int) := by omega
              have hq6 : ¬ lc = 0 := by omega
              have hi6 : i ≤ 1000000 := by have := entsL_many HFO.out; have := HL6.out; omega
              obtain ⟨hh, hhe⟩ : ∃ hh, (shG k).here = hh := ⟨_, rfl⟩
              have HHE := Lib.hid hhe
              have hbwV := HX.out
              have hitV := HI.out.keep (Same.below hbwV)
              have hcall : ∀ W, Below V.heap.size V W → Calls Tryz.prog 87 #[.slice (some ⟨b0, o0, none⟩) j lc] W fun e w' => ∃ ev ev2 kv, e = .returned (.agg #[ev, .bool hh, ev2, kv]) ∧ ShAt (Since F W w') w' (ev, ev2, kv) (shG k) ∧ Below W.heap.size W w' := fun W hb => by
                rw [← HHE.out]
                refine HSUB.out W _ ?_ (fun b hbF => by have := HF.out b hbF; have := hbv.low; have := hb.size; omega)
                have h0 := (hitV.keep (Same.below hb)).reads.part eltItem (by decide) (i := 0) (m := j) (by rw [HL.out]; omega)
                rw [List.drop_zero, Nat.zero_mul, Nat.add_zero, Nat.sub_zero, entsL_cons, ← HM.out, List.take_left] at h0
                rw [HM.out] at h0
                exact reads_items h0 (fun b e => hitV.own b e)
              obtain ⟨a9', n9', c9', hcutL, hrest⟩ : ∃ a9 n9 c9, (∀ W, (Instr.slice 111 (.slice (some ⟨b0, o0, none⟩) L lc) (some (.int .i64 (j : Nat))) none none).run Tryz.prog W = .ok (.slice a9 n9 c9) W) ∧ ItemsAt F V (.slice a9 n9 c9) (entsL (ks.drop (i + 1))) := by
                have h1 := hitV.reads.cut eltItem (by decide) (i := j) (m := L - j) (by rw [HL.out]; omega)
                rw [entsL_cons, ← HM.out, List.drop_left, HM.out, List.take_of_length_le (by have := HLM.out; omega)] at h1
                exact ⟨_, _, _, fun W => cut_items W _ L lc j (by omega), reads_items h1 (fun b e => hitV.own b (by rw [← e]; exact cut_block.symm))⟩
              have HREST := Lib.hid hrest
              have HCALL := Lib.hid hcall
              have HBV := Lib.hid hbv
              have HKN := Lib.hid hkn
              clear hbv hkn hhe hbwV hitV hcall hrest hML hd
              (try clear hq1 hq2 hjL hd2)
              (try clear hd2 hjL)
              (try clear hjL)
              go_upto_region 10 with fail
              go_region_law (first
                | (go_simp; go_at_call 87; refine (HCALL.out _ ((Below.refl _ V).drew)).mono ?_; rintro e w5 ⟨sv5, ev5, kv5, rfl, hsh5, hb5⟩; obtain ⟨a51, n51, c51, a52, n52, c52, a53, n53, c53, he5⟩ := hsh5.slices; injection he5 with he51 he52; injection he52 with he52 he53; subst he51; subst he52; subst he53; have hb5' : Below V.heap.size V w5 := ((Below.refl _ V).drew).trans hb5; obtain ⟨v6, w6, hrun, hg6, hb6⟩ := shapes_more (fun b hb => by have := HF.out b hb; omega) HBV.out.low HBV.out.kids hb5' (hsh5.mono (fun b hb => by rcases hb with hb | hb; exact .inl hb; exact fresh_out HBV.out.kids HBV.out.low b ⟨hb.1, hb.2⟩)) (by have := HKN.out; omega); obtain ⟨a6, c6, rfl⟩ := hg6.slice; obtain ⟨n6, hn6⟩ : ∃ n6, ((ks.take i).map shG ++ [shG k]).length = n6 := ⟨_, rfl⟩; rw [hn6] at hrun hg6; obtain ⟨hbx6, hnx6, hbn6⟩ := HBV.out.next HF.out hg6 hb6; rw [HHE.out] at hrun; have d6 := cell4' hbx6 3 _ rfl; have f6 := fun j => frozen_of_row w6 (w.heap.size + 1) j _ _ hbx6; have c5 := cell_below hb5' hk3; have c5' := cell_below ((Below.refl _ w5).alloc (Nat.le_refl _) (.cells #[.slice a51 n51 c51, .bool hh, .slice a52 n52 c52, .slice a53 n53 c53] 88)) c5; have HNX := Lib.hid hnx6; have HBN := Lib.hid hbn6; clear hsh5 hb5 hb5' hg6 hb6 hn6 hbx6 hnx6 hbn6)
                | (refine step_append_run _ (by rfl) _ _ _ _ (by rfl) _ _ (by rfl) (by rfl) _ _ hrun ?_))
              all_goals
                obtain ⟨W7, hW7⟩ : ∃ W7, w6.setCell ⟨w.heap.size + 1, 3, none⟩ (.slice a6 n6 c6) = W7 := ⟨_, rfl⟩
                have hnx := HNX.out
                have hbn := HBN.out
                rw [hW7] at hnx hbn ⊢
                have HNX7 := Lib.hid hnx
                have HBN7 := Lib.hid hbn
                clear hnx hbn hW7 d6 f6 HNX HBN hrun c5 c5' hk3 hq5 hq6
                go_wp2_with fail
                go_roundg gk
                case measure => omega
                case rel => exact ⟨i + 1, _, by omega, HREST.out.keep (same_of_below HBN7.out HF.out), by rw [List.take_add_one, HKK.out, List.map_append]; exact HNX7.out⟩
            · have hd2 : decide ((j : Int) < (L : Int)) = false := decide_eq_false (by omega)
              go_wp2_with fail
              go_quiet (fail)
              have hxx := HBI.out.trans ((below_drew wr nq).mono HBI.out.size)
              have HX := Lib.hid hxx
              clear hxx t0 p0
              generalize wr.drewN nq = V at HX ⊢
              have hbv := HBX.out.move HF.out HX.out
              obtain ⟨ka, kc, rfl⟩ := hbv.kids.slice
              have hkn : ((ks.take i).map shG).length = i := by rw [List.length_map, List.length_take]; omega
              rw [hkn] at hbv
              have hk3 := cell4' hbv.box 3 _ rfl
              have hq5 : (j : Int) ≤ (lc : Int) := by omega
              have hq6 : ¬ lc = 0 := by omega
              have hi6 : i ≤ 1000000 := by have := entsL_many HFO.out; have := HL6.out; omega
              obtain ⟨hh, hhe⟩ : ∃ hh, (shG k).here = hh := ⟨_, rfl⟩
              have HHE := Lib.hid hhe
              have hbwV := HX.out
              have hitV := HI.out.keep (Same.below hbwV)
              have hcall : ∀ W, Below V.heap.size V W → Calls Tryz.prog 87 #[.slice (some ⟨b0, o0, none⟩) j lc] W fun e w' => ∃ ev ev2 kv, e = .returned (.agg #[ev, .bool hh, ev2, kv]) ∧ ShAt (Since F W w') w' (ev, ev2, kv) (shG k) ∧ Below W.heap.size W w' := fun W hb => by
                rw [← HHE.out]
                refine HSUB.out W _ ?_ (fun b hbF => by have := HF.out b hbF; have := hbv.low; have := hb.size; omega)
                have h0 := (hitV.keep (Same.below hb)).reads.part eltItem (by decide) (i := 0) (m := j) (by rw [HL.out]; omega)
                rw [List.drop_zero, Nat.zero_mul, Nat.add_zero, Nat.sub_zero, entsL_cons, ← HM.out, List.take_left] at h0
                rw [HM.out] at h0
                exact reads_items h0 (fun b e => hitV.own b e)
              obtain ⟨a9', n9', c9', hcutL, hrest⟩ : ∃ a9 n9 c9, (∀ W, (Instr.slice 111 (.slice (some ⟨b0, o0, none⟩) L lc) (some (.int .i64 (j : Nat))) none none).run Tryz.prog W = .ok (.slice a9 n9 c9) W) ∧ ItemsAt F V (.slice a9 n9 c9) (entsL (ks.drop (i + 1))) := by
                have h1 := hitV.reads.cut eltItem (by decide) (i := j) (m := L - j) (by rw [HL.out]; omega)
                rw [entsL_cons, ← HM.out, List.drop_left, HM.out, List.take_of_length_le (by have := HLM.out; omega)] at h1
                exact ⟨_, _, _, fun W => cut_items W _ L lc j (by omega), reads_items h1 (fun b e => hitV.own b (by rw [← e]; exact cut_block.symm))⟩
              have HREST := Lib.hid hrest
              have HCALL := Lib.hid hcall
              have HBV := Lib.hid hbv
              have HKN := Lib.hid hkn
              clear hbv hkn hhe hbwV hitV hcall hrest hML hd
              (try clear hq1 hq2 hjL hd2)
              (try clear hd2 hjL)
              (try clear hjL)
              go_upto_region 10 with fail
              go_region_law (first
                | (go_simp; go_at_call 87; refine (HCALL.out _ ((Below.refl _ V).drew)).mono ?_; rintro e w5 ⟨sv5, ev5, kv5, rfl, hsh5, hb5⟩; obtain ⟨a51, n51, c51, a52, n52, c52, a53, n53, c53, he5⟩ := hsh5.slices; injection he5 with he51 he52; injection he52 with he52 he53; subst he51; subst he52; subst he53; have hb5' : Below V.heap.size V w5 := ((Below.refl _ V).drew).trans hb5; obtain ⟨v6, w6, hrun, hg6, hb6⟩ := shapes_more (fun b hb => by have := HF.out b hb; omega) HBV.out.low HBV.out.kids hb5' (hsh5.mono (fun b hb => by rcases hb with hb | hb; exact .inl hb; exact fresh_out HBV.out.kids HBV.out.low b ⟨hb.1, hb.2⟩)) (by have := HKN.out; omega); obtain ⟨a6, c6, rfl⟩ := hg6.slice; obtain ⟨n6, hn6⟩ : ∃ n6, ((ks.take i).map shG ++ [shG k]).length = n6 := ⟨_, rfl⟩; rw [hn6] at hrun hg6; obtain ⟨hbx6, hnx6, hbn6⟩ := HBV.out.next HF.out hg6 hb6; rw [HHE.out] at hrun; have d6 := cell4' hbx6 3 _ rfl; have f6 := fun j => frozen_of_row w6 (w.heap.size + 1) j _ _ hbx6; have c5 := cell_below hb5' hk3; have c5' := cell_below ((Below.refl _ w5).alloc (Nat.le_refl _) (.cells #[.slice a51 n51 c51, .bool hh, .slice a52 n52 c52, .slice a53 n53 c53] 88)) c5; have HNX := Lib.hid hnx6; have HBN := Lib.hid hbn6; clear hsh5 hb5 hb5' hg6 hb6 hn6 hbx6 hnx6 hbn6)
                | (refine step_append_run _ (by rfl) _ _ _ _ (by rfl) _ _ (by rfl) (by rfl) _ _ hrun ?_))
              all_goals
                obtain ⟨W7, hW7⟩ : ∃ W7, w6.setCell ⟨w.heap.size + 1, 3, none⟩ (.slice a6 n6 c6) = W7 := ⟨_, rfl⟩
                have hnx := HNX.out
                have hbn := HBN.out
                rw [hW7] at hnx hbn ⊢
                have HNX7 := Lib.hid hnx
                have HBN7 := Lib.hid hbn
                clear hnx hbn hW7 d6 f6 HNX HBN hrun c5 c5' hk3 hq5 hq6
                go_wp2_with fail
                go_roundg gk
                case measure => omega
                case rel => exact ⟨i + 1, _, by omega, HREST.out.keep (same_of_below HBN7.out HF.out), by rw [List.take_add_one, HKK.out, List.map_append]; exact HNX7.out⟩
end Go.Proofs.YtgnffkahlniehaaGreat
