/- Proved here: the document's Shape and Nodes; the law's stands. -/
import Derived.Test.YtgnffkahlniehaaGreatRlStands
import Derived.Test.YtgnffkahlniehaaGreatRlA
import Derived.Test.YtgnffkahlniehaaGreatRtLaid
import Derived.Test.YtgnffkahlniehaaGreatRtKnown
namespace Go.Proofs.YtgnffkahlniehaaGreat
open Go Go.RowKit Go.Proofs.Gs Go.Proofs.Tri Go.Proofs.Rt Go.Proofs.Tp

theorem small_of : ∀ {t : Tree}, Forest ltB t.kids → Lim t → t.lv.length ≤ 1000000001 → Small 1000000001 (shOf t) := by
  intro t
  refine Tr.ind (P := fun t => Forest ltB t.kids → Lim t → t.lv.length ≤ 1000000001 → Small 1000000001 (shOf t)) (fun lv v ks ih hf hl hlv => ?_) t
  rw [shOf_node]
  rw [Tr.kids_node] at hf
  have hk := hl.kids (by rw [Tr.kids_node]; exact hf)
  rw [Tr.kids_node] at hk
  refine .mk _ _ _ _ hlv (by rw [List.length_map]; omega) (fun k hk' => ?_)
  obtain ⟨k0, hk0, rfl⟩ := List.mem_map.1 hk'
  exact ih k0 hk0 (hf.ok k0 hk0).forest (hl.kid (by rw [Tr.kids_node]; exact hk0)).1 (hl.lv (by rw [Tr.kids_node]; exact hf) (by rw [Tr.kids_node]; exact hk0))

/-- The items of a trie's messages. -/
def hereItem (_ : MsgV) : ItemV := (true, [])
theorem lim_map {t : Tree} (h : Lim t) : Lim (mapTr hereItem t) := by
  refine ⟨by rw [body_map]; unfold mapE; rw [List.length_map]; exact h.count, fun e he => ?_⟩
  rw [body_map] at he
  obtain ⟨x, hx, rfl⟩ := List.mem_map.1 he
  exact h.long x hx

set_option maxHeartbeats 1000000 in
set_option maxRecDepth 100000 in
theorem rlShape_any {F : Nat → Prop} {w : World} {mb : Nat} {B : Ents} {t : Tree} (h : Lis F w mb B) (hB : ∀ e ∈ B, e.2.topic.size ≤ 1000000000) (hlen : B.length ≤ 1000000) (hb : Tri.body t = B) (hlv : t.lv = []) (hfo : Forest ltB t.kids) (hli : Lim t) :
    Calls Tryz.prog 46 #[.pointer (some ⟨mb, 0, none⟩)] w fun e w' => ∃ sv ev kv, e = .returned (.agg #[sv, .bool t.val.isSome, ev, kv]) ∧ ShAt (Fresh w w') w' (sv, ev, kv) (shOf t) ∧ Below w.heap.size w w' := by
  obtain ⟨v, c0, hm⟩ := h.c0
  have HKY := Lib.hid h.keyed
  obtain ⟨K, hK⟩ : ∃ K, B.length = K := ⟨_, rfl⟩
  have HK := Lib.hid hK
  have hvl := (vals_length : (vals B).length = B.length)
  obtain ⟨a, cap, rfl, hcap, hmax⟩ := hm.slice
  rw [hvl, hK] at c0 hcap hm
  have HM := Lib.hid hm
  have HC := Lib.hid c0
  have HBS := Lib.hid hB
  have hST : StandsSpec (mapTr hereItem t) := stands_any (mapTr hereItem t) (by rw [mapTr_kids]; exact mapTr_forest _ hfo) (lim_map hli)
  have HS := Lib.hid hST
  have HBODY := Lib.hid (show Tri.body (mapTr hereItem t) = mapE hereItem B by rw [body_map, hb])
  have HLV := Lib.hid (show (mapTr hereItem t).lv = [] by rw [mapTr_lv, hlv])
  have hsh : shG (mapTr hereItem t) = shOf t := shG_of t
  have HSH := Lib.hid hsh
  rw [hK] at hlen
  obtain ⟨W0, hW0⟩ : ∃ W0, w.alloc (.cells #[.slice none 0 0, .bool false, .slice none 0 0, .slice none 0 0] 88) = W0 := ⟨_, rfl⟩
  have g0 : W0.heap[w.heap.size]? = some (.cells #[.slice none 0 0, .bool false, .slice none 0 0, .slice none 0 0] 88 (0, 0)) := by rw [← hW0]; exact (MapKept.heap_alloc w _).1
  have hb0 : Below w.heap.size w W0 := by rw [← hW0]; exact (Below.refl _ _).alloc (Nat.le_refl _) _
  have hs0 : W0.heap.size = w.heap.size + 1 := by rw [← hW0]; simp
  have HB0 := Lib.hid hb0
  have HW0 := Lib.hid hW0
  clear h hm hB hK hvl c0 hST hsh hfo hli hb hlv hb0 hW0
  go_enter Tryz.func46, Tryz.ntmps46
  go_wp2_with fail
  rw [HW0.out]
  go_loopg [3, 4] K (fun g v5 i6 wr => ∃ i : Nat, i + g = K ∧ i6 = .int .i64 (i : Nat) ∧ Gro W0.heap.size 113 3 ElItem (Out (fun _ => False) W0.heap.size wr v5) wr v5 (mapE hereItem (B.take i)) ∧ Below W0.heap.size W0 wr)
  case atStart => exact ⟨0, by omega, rfl, Gro.start eltItem (fun _ hb => hb.elim), Below.refl _ _⟩
  case round =>
    obtain ⟨i, hig, rfl, hg, hb⟩ := hrel
    obtain ⟨a5, c5, rfl⟩ := hg.slice
    have hn5 : (mapE hereItem (B.take i)).length = i := by unfold mapE; rw [List.length_map, List.length_take, HK.out]; omega
    rw [hn5] at hg ⊢
    have HN5 := Lib.hid hn5
    have HB := Lib.hid hb
    have hbw := HB0.out.trans (hb.mono (by omega))
    have HBW := Lib.hid hbw
    have HG := Lib.hid hg
    have c0 := cell_below hbw HC.out
    clear hb hg hn5 hbw
    cases gk with
    | zero =>
      obtain rfl : i = K := by omega
      have hd : decide ((i : Int) < (i : Int)) = false := decide_eq_false (by omega)
      have hsz := HBW.out.size
      have hsz0 := HB.out.size
      have hg5 := HG.out
      rw [List.take_of_length_le (by rw [HK.out]; exact Nat.le_refl _), ← HBODY.out] at hg5
      have hit : ItemsAt (Fresh W0 wr) wr (.slice a5 i c5) (Tri.body (mapTr hereItem t)) := reads_items (hg5.reads eltItem (fun b hb => by rcases hb with hb | hb; exact hb.elim; exact ⟨by omega, hb.2.1⟩)) (fun b e => ⟨by have := (hg5.bound e).1; omega, (hg5.bound e).2⟩)
      have hst0 : StrsF (Fresh W0 wr) wr (.slice none 0 0) (mapTr hereItem t).lv := by rw [HLV.out]; exact rowF_nil _ _ _
      have HST := Lib.hid (HS.out (Fresh W0 wr) wr (.slice none 0 0) (.slice a5 i c5) hst0 hit (fun b hb => hb.2))
      have G5 := Lib.hid ((HB.out.block w.heap.size (by omega)).trans g0)
      clear hg5 hit hst0
      go_wp2_with fail
      refine HST.out.mono ?_
      rintro e w6 ⟨ev2, kv, rfl, hsh, hb6⟩
      rw [HSH.out] at hsh ⊢
      rw [shOf_here]
      obtain ⟨x1, y1, z1, x2, y2, z2, x3, y3, z3, hee⟩ := hsh.slices
      injection hee with he1 he2
      injection he2 with he2 he3
      subst he2; subst he3
      clear he1
      obtain ⟨hh, hhe⟩ : ∃ hh, t.val.isSome = hh := ⟨_, rfl⟩
      rw [hhe]
      have HHE := Lib.hid hhe
      have hsz6 : w.heap.size < wr.heap.size := by omega
      have g6 := (hb6.block w.heap.size hsz6).trans G5.out
      have t0 := cell4' g6 0 _ rfl
      have t1 := cell4' g6 1 _ rfl
      have t2 := cell4' g6 2 _ rfl
      have t3 := cell4' g6 3 _ rfl
      have tf := fun j => frozen_of_row w6 w.heap.size j _ _ g6
      have HSHP := Lib.hid hsh
      have HB6 := Lib.hid hb6
      have HG6 := Lib.hid g6
      clear hsh hb6 g6 hhe
      go_wp2_with fail
      obtain ⟨W4, hW4⟩ : ∃ W4, (((w6.setCell ⟨w.heap.size, 0, none⟩ (.slice none 0 0)).setCell ⟨w.heap.size, 1, none⟩ (.bool hh)).setCell ⟨w.heap.size, 2, none⟩ (.slice x2 y2 z2)).setCell ⟨w.heap.size, 3, none⟩ (.slice x3 y3 z3) = W4 := ⟨_, rfl⟩
      obtain ⟨g4, b4, s4⟩ := set4 HG6.out hW4
      have o4 : ∀ k, k ≠ w.heap.size → W4.heap[k]? = w6.heap[k]? := fun k hk => by
        rw [← hW4]
        exact (heap_setCell_other _ _ _ _ hk).trans ((heap_setCell_other _ _ _ _ hk).trans ((heap_setCell_other _ _ _ _ hk).trans (heap_setCell_other _ _ _ _ hk)))
      rw [hW4]
      clear hW4 t0 t1 t2 t3
      have m0 := cell4' g4 0 _ rfl
      have m1 := cell4' g4 1 _ rfl
      have m2 := cell4' g4 2 _ rfl
      have m3 := cell4' g4 3 _ rfl
      refine bodyPost_ret (v := .agg #[.slice none 0 0, .bool hh, .slice x2 y2 z2, .slice x3 y3 z3]) (by simp [results, Tryz.results46, go_sem, m0, m1, m2, m3]) rfl ?_
      have hs6 := HB6.out.size
      refine ⟨_, _, _, by rw [HHE.out], (HSHP.out.keep (fun k hk hF => o4 k ?_)).mono (fun x hx => ?_), (HBW.out.trans (HB6.out.mono HBW.out.size)).trans (b4 _ (Nat.le_refl _))⟩
      · rcases hF with hF | hF
        · have := hF.1; omega
        · omega
      · rcases hx with hx | hx
        · exact ⟨by have := hx.1; omega, by have := hx.2; omega⟩
        · exact ⟨by omega, by omega⟩
    | succ gk =>
      have hd : decide ((i : Int) < (K : Int)) = true := decide_eq_true (by omega)
      have hq1 : (0 : Int) ≤ (i : Int) := by omega
      have hq2 : (i : Int) < (K : Int) := by omega
      obtain ⟨e0, he0⟩ : ∃ e0, B[i]? = some e0 := ⟨_, List.getElem?_eq_getElem (by rw [HK.out]; omega)⟩
      have hmm : (vals B)[i]? = some e0.2 := by rw [vals_get, he0]; rfl
      have hM := HM.out.keep (Same.below HBW.out)
      obtain ⟨fb, fo, rfl⟩ : ∃ fb fo, a = some ⟨fb, fo, none⟩ := by
        obtain ⟨b, o, c, e, _⟩ := MsgsAt.some HM.out (by rw [vals_length, HK.out]; omega)
        injection e with e1 e2 e3
        exact ⟨b, o, e1⟩
      obtain ⟨pv, k0, k1, k2, k3, hv⟩ := hM.one hmm
      have hms := HBS.out e0 (List.mem_of_getElem? he0)
      have hkey := (HKY.out.key e0 (List.mem_of_getElem? he0)).1
      have HKEY := Lib.hid hkey
      have HE := Lib.hid he0
      clear hM hmm hv k1 k2 k3 hkey he0
      go_wp2_with fail
      refine (rfLevels_any e0.2.topic _ hms).mono ?_
      rintro e w3 ⟨v3, rfl, hown3, hb3⟩
      have hst3 : StrsF (fun x => wr.heap.size ≤ x ∧ x < w3.heap.size) w3 v3 (levels e0.2.topic) := RowF.of_owns hown3 (fun g h1 h2 => ⟨h1, h2⟩)
      rw [← HKEY.out] at hst3
      obtain ⟨a3, n3, c3, rfl⟩ : ∃ a n c, v3 = .slice a n c := by obtain ⟨⟨_, a, c, e, _⟩, _⟩ := id hst3; exact ⟨a, _, c, e⟩
      obtain ⟨v6, w6, hrun, hg6, hb6⟩ := items_more (fun _ hb => hb.elim) HB.out.size HG.out hb3 (e := (e0.1, hereItem e0.2)) (ev := .slice none 0 0) (RowF.mono hst3 (fresh_out HG.out HB.out.size)) (rowF_nil _ _ _) (by have := HN5.out; omega)
      obtain ⟨a6, c6, rfl⟩ := hg6.slice
      have hn6 : (mapE hereItem (B.take i) ++ [(e0.1, hereItem e0.2)]).length = i + 1 := by rw [List.length_append, HN5.out]; rfl
      rw [hn6] at hrun hg6
      have hg7 : mapE hereItem (B.take (i + 1)) = mapE hereItem (B.take i) ++ [(e0.1, hereItem e0.2)] := by rw [List.take_add_one, HE.out, mapE_app]; rfl
      rw [← hg7] at hg6
      have hrun' : ∀ ty, (Builtin.append_ #[111, 111] ty #[.slice a5 i c5, .slice (some ⟨w3.heap.size, 0, none⟩) 1 1]).run Tryz.prog (w3.alloc (.cells #[.slice a3 n3 c3, .bool true, .slice none 0 0] 113)) = .ok (.slice a6 (i + 1) c6) w6 := hrun
      have HG6 := Lib.hid hg6
      have HB6 := Lib.hid (HB.out.trans hb6)
      clear hown3 hb3 hst3 hg6 hb6 hn6 hg7 hrun
      go_wp2_with (at_builtin; refine Lib.wpList_append_run _ rfl _ _ _ _ rfl _ _ rfl rfl _ _ (hrun' _) ?_)
      go_roundg gk
      case measure => omega
      case rel => exact ⟨i + 1, by omega, by go_num, HG6.out, HB6.out⟩

set_option maxHeartbeats 400000 in
set_option maxRecDepth 100000 in
theorem rlNodes_any {F : Nat → Prop} {w : World} {mb : Nat} {B : Ents} {t : Tree} (h : Lis F w mb B) (hB : ∀ e ∈ B, e.2.topic.size ≤ 1000000000) (hlen : B.length ≤ 1000000) (hb : Tri.body t = B) (hlv : t.lv = []) (hfo : Forest ltB t.kids) (hli : Lim t) :
    Calls Tryz.prog 43 #[.pointer (some ⟨mb, 0, none⟩)] w fun e w' => e = .returned (.int .i64 (nodes t : Nat)) ∧ Below w.heap.size w w' := by
  have HS := Lib.hid (rlShape_any h hB hlen hb hlv hfo hli)
  have hc := count_of t
  have hn := (nodes_small hfo hli).1
  have HC := Lib.hid hc
  clear h hB hb hlv hfo hli
  go_enter Tryz.func43, Tryz.ntmps43
  go_wp2_with fail
  refine HS.out.mono ?_
  rintro e w1 ⟨sv, ev, kv, rfl, hsh, hb1⟩
  have hr := rnodes_any (shOf t) _ w1 sv ev kv hsh (by omega)
  rw [shOf_here, hc] at hr
  have HR := Lib.hid hr
  have HB1 := Lib.hid hb1
  clear hsh hr hb1 hc
  go_wp2_with fail
  refine HR.out.mono ?_
  rintro e w2 ⟨rfl, hb2⟩
  have HB2 := Lib.hid hb2
  clear hb2
  go_wp2_with fail
  go_ret
  exact ⟨rfl, HB1.out.trans (HB2.out.mono HB1.out.size)⟩

set_option maxHeartbeats 1000000 in
set_option maxRecDepth 100000 in
/-- The law's stands, of a trie and the document's that hold the same. -/
theorem lwStands_any {F1 F2 : Nat → Prop} {w : World} {tb mb : Nat} {B : Ents} {t : Tree} (T : Grove F1 w tb t B) (M : Lis F2 w mb B) (hB : ∀ e ∈ B, e.2.topic.size ≤ 1000000000) (hlen : B.length ≤ 1000000) :
    Calls Tryz.prog 19 #[.pointer (some ⟨tb, 0, none⟩), .pointer (some ⟨mb, 0, none⟩)] w fun e w' => e = .returned (.bool true) ∧ Below w.heap.size w w' := by
  have hfo := T.tr.forest
  have hli := T.tr.lim
  have HT := Lib.hid T
  have HM := Lib.hid M
  have HB := Lib.hid hB
  obtain ⟨K, hK⟩ : ∃ K, B.length = K := ⟨_, rfl⟩
  have hl1 := len_any T.tr
  rw [T.body, hK] at hl1
  have hl2 := rlLen_any M
  rw [hK] at hl2
  have HL1 := Lib.hid hl1
  have HL2 := Lib.hid hl2
  obtain ⟨N, hN⟩ : ∃ N, nodes t = N := ⟨_, rfl⟩
  have hn1 := nodes_any T.tr
  have hn2 := rlNodes_any M hB hlen T.body T.lv hfo hli
  rw [hN] at hn1 hn2
  have HN1 := Lib.hid hn1
  have HN2 := Lib.hid hn2
  have hlv : t.lv.length ≤ 1000000001 := by rw [T.lv]; simp
  have HSM := Lib.hid (small_of hfo hli hlv)
  have hKK : ((K : Int) == (K : Int)) = true := by simp
  have hNN : ((N : Int) == (N : Int)) = true := by simp
  obtain ⟨hh, hhe⟩ : ∃ hh, t.val.isSome = hh := ⟨_, rfl⟩
  have HHE := Lib.hid hhe
  have HLEN := Lib.hid hlen
  clear T M hB hl1 hl2 hn1 hn2 hK hN hfo hli hhe hlen
  go_enter Tryz.func19, Tryz.ntmps19
  go_wp2_with fail
  refine HL1.out.mono ?_
  rintro e w' ⟨rfl, rfl⟩
  go_wp2_with fail
  refine HL2.out.mono ?_
  rintro e w' ⟨rfl, rfl⟩
  go_wp2_with fail
  refine HN1.out.mono ?_
  rintro e w' ⟨rfl, rfl⟩
  go_wp2_with fail
  refine HN2.out.mono ?_
  rintro e w1 ⟨rfl, hb1⟩
  have HB1 := Lib.hid hb1
  have HS1 := Lib.hid (tshape_any (HT.out.tr.below hb1) hlv)
  clear hb1
  go_wp2_with fail
  refine HS1.out.mono ?_
  rintro e w2 ⟨s1, e1, k1, rfl, hsh1, hb2⟩
  rw [HHE.out]
  obtain ⟨x1, y1, z1, x2, y2, z2, x3, y3, z3, hee⟩ := hsh1.slices
  injection hee with he1 he2
  injection he2 with he2 he3
  subst he1; subst he2; subst he3
  have hbw2 := HB1.out.trans (hb2.mono HB1.out.size)
  have HB2 := Lib.hid hbw2
  have HSH1 := Lib.hid hsh1
  have HS2 := Lib.hid (rlShape_any (HM.out.below hbw2) HB.out HLEN.out HT.out.body HT.out.lv HT.out.tr.forest HT.out.tr.lim)
  clear hb2 hbw2 hsh1
  go_wp2_with fail
  refine HS2.out.mono ?_
  rintro e w3 ⟨s2, e2, k2, rfl, hsh2, hb3⟩
  rw [HHE.out]
  obtain ⟨x4, y4, z4, x5, y5, z5, x6, y6, z6, hee⟩ := hsh2.slices
  injection hee with he1 he2
  injection he2 with he2 he3
  subst he1; subst he2; subst he3
  have hss := sameSh_any (shOf t) _ _ w3 _ _ _ _ _ _ (HSH1.out.keep (Same.below hb3)) hsh2 (bare_of t) HSM.out
  rw [shOf_here, HHE.out] at hss
  have HSS := Lib.hid hss
  have HB3 := Lib.hid (HB2.out.trans (hb3.mono HB2.out.size))
  clear hb3 hsh2 hss
  go_wp2_with fail
  refine HSS.out.mono ?_
  rintro e w4 ⟨rfl, hb4⟩
  have HB4 := Lib.hid (HB3.out.trans (hb4.mono HB3.out.size))
  clear hb4
  go_wp2_with fail
  go_ret
  exact ⟨rfl, HB4.out⟩
end Go.Proofs.YtgnffkahlniehaaGreat

/- Plain: what RettrieLong holds between two rounds. No code walked. -/
namespace Go.Proofs.YtgnffkahlniehaaGreat
open Go Go.RowKit Go.Proofs.Gs Go.Proofs.Tri Go.Proofs.Rt Go.Proofs.Tp

def filt : List ByteArray := [⟨#[35]⟩, ⟨#[97, 47, 35]⟩, ⟨#[43]⟩, ⟨#[43, 47, 43]⟩, ⟨#[97, 47, 43, 47, 98]⟩, ⟨#[98, 47, 35]⟩, ⟨#[43, 47, 97]⟩, ⟨#[99]⟩]
def fewB (n : Nat) (B : Ents) : Prop := B.length ≤ n ∧ ∀ e ∈ B, e.2.topic.size ≤ 20 ∧ e.2.pay.length ≤ 1

theorem fewB.put {n : Nat} {B : Ents} (h : fewB n B) {m : MsgV} (h1 : m.topic.size ≤ 20) (h2 : m.pay.length ≤ 1) : fewB (n + 1) (putB B m) := by
  refine ⟨by have := putB_length B m; have := h.1; omega, fun e he => ?_⟩
  rcases putB_mem he with he | he
  · rw [he]; exact ⟨h1, h2⟩
  · exact h.2 e he
theorem fewB.era {n : Nat} {B : Ents} (h : fewB n B) (p : List ByteArray) : fewB n (era p B) := ⟨Nat.le_trans (era_length p B) h.1, fun e he => h.2 e (era_mem he)⟩
theorem fewB.more {n n' : Nat} {B : Ents} (h : fewB n B) (hn : n ≤ n') : fewB n' B := ⟨Nat.le_trans h.1 hn, h.2⟩

structure LongAt (w0 W : World) (tb mb xb fb : Nat) (F1 F2 : Nat → Prop) (t : Tree) (BT BM : Ents) (y : Int) : Prop where
  gr : Grove F1 W tb t BT
  ls : Lis F2 W mb BM
  tr : W.heap[xb]? = some (.cells #[.int .i64 y] 25 (0, 0))
  y0 : 0 ≤ y
  y1 : y < 2147483648
  fl : W.heap[fb]? = some (.cells ((filt.map Value.string).toArray) 9 (0, 0))
  ne : tb ≠ mb ∧ tb ≠ xb ∧ mb ≠ xb ∧ fb ≠ tb ∧ fb ≠ mb ∧ fb ≠ xb
  n1 : ¬ F1 mb ∧ ¬ F1 xb ∧ ¬ F1 fb
  n2 : ¬ F2 tb ∧ ¬ F2 xb ∧ ¬ F2 fb
  low : w0.heap.size ≤ tb ∧ w0.heap.size ≤ mb ∧ w0.heap.size ≤ xb
  below : Below w0.heap.size w0 W

section
variable {w0 W W' : World} {tb mb xb fb : Nat} {F1 F2 : Nat → Prop} {t : Tree} {BT BM : Ents} {y : Int}
theorem LongAt.lt (h : LongAt w0 W tb mb xb fb F1 F2 t BT BM y) : tb < W.heap.size ∧ mb < W.heap.size ∧ xb < W.heap.size ∧ fb < W.heap.size :=
  ⟨h.gr.tr.lt, h.ls.lt, (Array.getElem?_eq_some_iff.1 h.tr).1, (Array.getElem?_eq_some_iff.1 h.fl).1⟩
theorem LongAt.more (h : LongAt w0 W tb mb xb fb F1 F2 t BT BM y) (hb : Below W.heap.size W W') : LongAt w0 W' tb mb xb fb F1 F2 t BT BM y := by
  obtain ⟨l1, l2, l3, l4⟩ := h.lt
  exact ⟨h.gr.below hb, h.ls.below hb, (hb.block xb l3).trans h.tr, h.y0, h.y1, (hb.block fb l4).trans h.fl, h.ne, h.n1, h.n2, h.low, h.below.trans (hb.mono h.below.size)⟩
theorem LongAt.turn (h : LongAt w0 W tb mb xb fb F1 F2 t BT BM y) {y' : Int} (h0 : 0 ≤ y') (h1 : y' < 2147483648) (hW : W' = W.setCell ⟨xb, 0, none⟩ (.int .i64 y')) : LongAt w0 W' tb mb xb fb F1 F2 t BT BM y' := by
  have hs : W'.heap.size = W.heap.size := by rw [hW]; simp [World.setCell]
  have ho : ∀ k, k ≠ xb → W'.heap[k]? = W.heap[k]? := fun k hk => by rw [hW]; exact heap_setCell_other _ _ _ _ hk
  have hg : W.grownBy W' (some xb) := ⟨by rw [hW]; rfl, by rw [hW]; rfl, by rw [hW]; rfl, by omega, fun k _ hne => ho k (fun e => hne (by rw [e]))⟩
  exact ⟨h.gr.grown hg (Ne.symm h.ne.2.1) h.n1.2.1, h.ls.grown hg (Ne.symm h.ne.2.2.1) h.n2.2.1, by rw [hW]; exact heap_setCell_same _ _ _ _ _ _ h.tr, h0, h1, (ho fb h.ne.2.2.2.2.2).trans h.fl, h.ne, h.n1, h.n2, h.low, h.below.grown hg h.below.size (fun k e => by injection e with e; have := h.low; omega)⟩
theorem LongAt.tput (h : LongAt w0 W tb mb xb fb F1 F2 t BT BM y) {t' : Tree} {BT' : Ents} (hg : Grove (Since F1 W W') W' tb t' BT') (hgr : W.grownBy W' (some tb)) : LongAt w0 W' tb mb xb fb (Since F1 W W') F2 t' BT' BM y := by
  obtain ⟨l1, l2, l3, l4⟩ := h.lt
  have ho : ∀ k, k < W.heap.size → k ≠ tb → W'.heap[k]? = W.heap[k]? := fun k hk hne => hgr.block k hk (fun e => hne (by injection e))
  have hno : ∀ x, ¬ F1 x → x < W.heap.size → ¬ Since F1 W W' x := fun x h1 h2 hx => by
    rcases hx with hx | hx
    · exact h1 hx
    · omega
  exact ⟨hg, h.ls.grown hgr h.ne.1 h.n2.1, (ho xb l3 (Ne.symm h.ne.2.1)).trans h.tr, h.y0, h.y1, (ho fb l4 h.ne.2.2.2.1).trans h.fl, h.ne, ⟨hno _ h.n1.1 l2, hno _ h.n1.2.1 l3, hno _ h.n1.2.2 l4⟩, h.n2, h.low, h.below.grown hgr h.below.size (fun k e => by injection e with e; have := h.low; omega)⟩
theorem LongAt.mput (h : LongAt w0 W tb mb xb fb F1 F2 t BT BM y) {BM' : Ents} (hg : Lis (Since F2 W W') W' mb BM') (hgr : W.grownBy W' (some mb)) : LongAt w0 W' tb mb xb fb F1 (Since F2 W W') t BT BM' y := by
  obtain ⟨l1, l2, l3, l4⟩ := h.lt
  have ho : ∀ k, k < W.heap.size → k ≠ mb → W'.heap[k]? = W.heap[k]? := fun k hk hne => hgr.block k hk (fun e => hne (by injection e))
  have hno : ∀ x, ¬ F2 x → x < W.heap.size → ¬ Since F2 W W' x := fun x h1 h2 hx => by
    rcases hx with hx | hx
    · exact h1 hx
    · omega
  exact ⟨h.gr.grown hgr (Ne.symm h.ne.1) h.n1.1, hg, (ho xb l3 (Ne.symm h.ne.2.2.1)).trans h.tr, h.y0, h.y1, (ho fb l4 h.ne.2.2.2.2.1).trans h.fl, h.ne, h.n1, ⟨hno _ h.n2.1 l1, hno _ h.n2.2.1 l3, hno _ h.n2.2.2 l4⟩, h.low, h.below.grown hgr h.below.size (fun k e => by injection e with e; have := h.low; omega)⟩
theorem LongAt.filter (h : LongAt w0 W tb mb xb fb F1 F2 t BT BM y) {r : Nat} (hr : r < 8) : ∃ s, W.cell? ⟨fb, r, none⟩ = some (.string s) ∧ s.size ≤ 20 := by
  have : ∃ s, filt[r]? = some s ∧ s.size ≤ 20 := by
    match r, hr with
    | 0, _ => exact ⟨_, rfl, by decide⟩
    | 1, _ => exact ⟨_, rfl, by decide⟩
    | 2, _ => exact ⟨_, rfl, by decide⟩
    | 3, _ => exact ⟨_, rfl, by decide⟩
    | 4, _ => exact ⟨_, rfl, by decide⟩
    | 5, _ => exact ⟨_, rfl, by decide⟩
    | 6, _ => exact ⟨_, rfl, by decide⟩
    | 7, _ => exact ⟨_, rfl, by decide⟩
  obtain ⟨s, h1, h2⟩ := this
  refine ⟨s, ?_, h2⟩
  unfold World.cell?
  simp only
  rw [h.fl]
  simp [h1]
end
end Go.Proofs.YtgnffkahlniehaaGreat
