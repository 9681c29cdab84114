/- Proved: crierlaw9.RettrieBound returns true for every two lists of messages. -/
import Derived.Test.YtgnffkahlniehaaRows
import Derived.Test.YtgnffkahlniehaaLawPost
import Derived.Test.YtgnffkahlniehaaRtArgs
import Derived.Test.YtgnffkahlniehaaRtKnown
import Derived.WalkKit
import Derived.ProofKit
import Derived.OpenShut
import Derived.BigRegion
import Derived.Shelf.RegionOpen
import Derived.SizedLaws
namespace Go.Proofs.Ytgnffkahlniehaa.rettrieBound
open Go.Proofs.Ytgnffkahlniehaa Go.ChangeShapes Go.WideShapes Go.ChangeAt Go.RowKit Go.Proofs.Gs Go.Proofs.Tri Go.Proofs.Rt Go.Proofs.Tp
set_option linter.unusedVariables false

theorem own : ownKnob Try.prog.godebug = none := by kernel_rfl

theorem small_of : ∀ {t : Tree}, Forest ltB t.kids → Lim t → t.lv.length ≤ 1000000001 → Small 1000000001 (shOf t) := by
  intro t
  refine Tr.ind (P := fun t => Forest ltB t.kids → Lim t → t.lv.length ≤ 1000000001 → Small 1000000001 (shOf t)) (fun lv v ks ih hf hl hlv => ?_) t
  rw [shOf_node]
  rw [Tr.kids_node] at hf
  have hk := hl.kids (by rw [Tr.kids_node]; exact hf)
  rw [Tr.kids_node] at hk
  refine .mk _ _ _ _ hlv (by rw [List.length_map]; omega) (fun k hk' => ?_)
  obtain ⟨k0, hk0, rfl⟩ := List.mem_map.1 hk'
  exact ih k0 hk0 (hf.ok k0 hk0).forest (hl.kid (by rw [Tr.kids_node]; exact hk0)).1 (hl.lv (by rw [Tr.kids_node]; exact hf) (by rw [Tr.kids_node]; exact hk0))

theorem row_open {F : Nat → Prop} {w : World} {a : Option Addr} {n cap : Nat} {l : List MsgV} (h : MsgsAt F w (.slice a n cap) l) (hn : l.length = n) (h0 : 0 < n) : ∃ b off, a = some ⟨b, off, none⟩ := by
  obtain ⟨pvs, _, h2, _⟩ := h
  rcases RowAt.cases h2.1 with ⟨h0', _⟩ | ⟨_, b', off', cap', e, _⟩
  · omega
  · injection e with e1 e2 e3
    exact ⟨b', off', e1⟩

theorem empty_tree {F : Nat → Prop} {w : World} {tb : Nat} {t : Tree} (h : Grove F w tb t []) : nodes t = 1 ∧ (body t).length = 0 := by
  have : t = .node [] none [] := trie_ext linB _ t (.node [] none []) (Nat.le_refl _) h.tr.forest Forest.nil h.lv (by rw [h.body]; rfl)
  rw [this]; exact ⟨rfl, rfl⟩

set_option maxHeartbeats 8000000 in
set_option maxRecDepth 1000000 in
theorem walk (l more : List MsgV) (v1 v2 : Value) (w : World) (h1 : MsgsAt (fun _ => True) w v1 l) (h2 : MsgsAt (fun _ => True) w v2 more) (s1 : ∀ m ∈ l, m.topic.size ≤ 200000000000000 ∧ m.pay.length ≤ 200000000000000) (s2 : ∀ m ∈ more, m.topic.size ≤ 200000000000000 ∧ m.pay.length ≤ 200000000000000) :
    Calls Try.prog 3 #[v1, v2] w fun e w' => e = .returned (.bool true) ∧ Below w.heap.size w w' := by
  obtain ⟨A1, C1, rfl, hc1, hm1⟩ := h1.slice
  obtain ⟨A2, C2, rfl, hc2, hm2⟩ := h2.slice
  cases hl : smallB l with
  | false =>
    have HS := Lib.hid (small_any h1 s1)
    rw [hl] at HS
    clear h1 h2 s1 s2 hl
    go_enter Try.func3, Try.ntmps3
    go_wp2_with fail
    refine HS.out.mono ?_
    rintro e w1 ⟨rfl, hb⟩
    have HB := Lib.hid hb
    clear hb
    go_wp2_with fail
    go_ret
    exact ⟨rfl, HB.out⟩
  | true =>
  have HS := Lib.hid (small_any h1 s1)
  rw [hl] at HS
  cases hl2 : smallB more with
  | false =>
    have HS2 := Lib.hid (fun (W : World) (hb : Below w.heap.size w W) => small_any (h2.keep (Same.below hb)) s2)
    rw [hl2] at HS2
    clear h1 h2 s1 s2 hl hl2
    go_enter Try.func3, Try.ntmps3
    go_wp2_with fail
    refine HS.out.mono ?_
    rintro e w1 ⟨rfl, hb⟩
    have HB := Lib.hid hb
    clear hb
    go_wp2_with fail
    refine (HS2.out _ HB.out).mono ?_
    rintro e w2 ⟨rfl, hb⟩
    have HB2 := Lib.hid (HB.out.trans (hb.mono HB.out.size))
    clear hb
    go_wp2_with fail
    go_ret
    exact ⟨rfl, HB2.out⟩
  | true =>
  have HS2 := Lib.hid (fun (W : World) (hb : Below w.heap.size w W) => small_any (h2.keep (Same.below hb)) s2)
  rw [hl2] at HS2
  obtain ⟨n1, z1⟩ := smallB_spec hl
  obtain ⟨n2, z2⟩ := smallB_spec hl2
  have HL := Lib.hid (fun (W : World) (hb : Below w.heap.size w W) => laid_any (h1.keep (Same.below hb)) n1 z1)
  have H1 := Lib.hid h1
  have H2 := Lib.hid h2
  have Z1 := Lib.hid z1
  have Z2 := Lib.hid z2
  have hpb0 := body_pays (fun m hm => (z1 m hm).2)
  have HP0 := Lib.hid hpb0
  have hbl := body_length l
  obtain ⟨K1, hK1⟩ : ∃ K, l.length = K := ⟨_, rfl⟩
  obtain ⟨K2, hK2⟩ : ∃ K, more.length = K := ⟨_, rfl⟩
  have HK1 := Lib.hid hK1
  have HK2 := Lib.hid hK2
  rw [hK1] at n1 hc1 hbl H1 HS HL ⊢
  rw [hK2] at n2 hc2 H2 HS2 ⊢
  clear h1 h2 s1 s2 hl hl2 hpb0 hK1 hK2 z1 z2
  go_enter Try.func3, Try.ntmps3
  go_wp2_with fail
  refine HS.out.mono ?_
  rintro e w1 ⟨rfl, hb⟩
  have HB1 := Lib.hid hb
  clear hb HS
  go_wp2_with fail
  refine (HS2.out _ HB1.out).mono ?_
  rintro e w2 ⟨rfl, hb⟩
  have HB2 := Lib.hid (HB1.out.trans (hb.mono HB1.out.size))
  clear hb HS2
  go_wp2_with fail
  refine (known_any w2).mono ?_
  rintro e w3 ⟨rfl, hb⟩
  have HB3 := Lib.hid (HB2.out.trans (hb.mono HB2.out.size))
  clear hb
  go_wp2_with fail
  refine (HL.out _ HB3.out).mono ?_
  rintro e w4 ⟨tb, FT0, t0, rfl, hg4, htl, hf4, hb⟩
  have HB4 := Lib.hid (HB3.out.trans (hb.mono HB3.out.size))
  have HG4 := Lib.hid hg4
  have HF4 := Lib.hid (show ∀ x, FT0 x → w.heap.size ≤ x from fun x hx => by have := hf4 x hx; have := HB3.out.size; omega)
  have htw : w.heap.size ≤ tb := by have := HB3.out.size; omega
  clear hb hg4 hf4
  go_wp2_with fail
  refine (HL.out _ HB4.out).mono ?_
  rintro e w5 ⟨ub, FU, u, rfl, hg5, hul, hf5, hb⟩
  have HB5 := Lib.hid (HB4.out.trans (hb.mono HB4.out.size))
  have HG5 := Lib.hid (HG4.out.below hb)
  have HU5 := Lib.hid hg5
  have hne : tb ≠ ub := by have := HG4.out.tr.lt; omega
  have HFU := Lib.hid (show ¬ FU tb from fun hx => by have := hf5 tb hx; have := HG4.out.tr.lt; omega)
  clear hb hg5 hf5 HG4
  go_wp2_with fail
  go_loopg [9] K2 (fun g i9 wr => ∃ (j : Nat) (FT : Nat → Prop) (t : Tree), j + g = K2 ∧ i9 = .int .i64 (j : Nat) ∧ Grove FT wr tb t (bodyOf l) ∧ (∀ x, FT x → w.heap.size ≤ x) ∧ Grove FU wr ub u (bodyOf l) ∧ Below w.heap.size w wr)
  case atStart => exact ⟨0, _, _, by omega, rfl, HG5.out, HF4.out, HU5.out, HB5.out⟩
  case round =>
    obtain ⟨j, FT, t, hjg, rfl, hgr, hFT, hgu, hbw⟩ := hrel
    have HGR := Lib.hid hgr
    have HFT := Lib.hid hFT
    have HGU := Lib.hid hgu
    have HBW := Lib.hid hbw
    clear hgr hFT hgu hbw HG5 HU5 HF4
    cases gk with
    | zero =>
      obtain rfl : j = K2 := by omega
      have hd : decide ((j : Int) < (j : Int)) = false := decide_eq_false (by omega)
      go_wp2_with fail
      go_loopg [18] K1 (fun g i18 wr => ∃ (j : Nat) (FT : Nat → Prop) (t : Tree), j + g = K1 ∧ i18 = .int .i64 (j : Nat) ∧ Grove FT wr tb t (eraAll (l.take j) (bodyOf l)) ∧ (∀ x, FT x → w.heap.size ≤ x) ∧ Below w.heap.size w wr)
      case atStart => exact ⟨0, _, _, by omega, rfl, HGR.out, HFT.out, HBW.out⟩
      case round =>
        obtain ⟨i, FT', t', hig, rfl, hgr2, hFT2, hbw2⟩ := hrel
        have HG2 := Lib.hid hgr2
        have HF2 := Lib.hid hFT2
        have HB2' := Lib.hid hbw2
        clear hgr2 hFT2 hbw2
        cases gk with
        | zero =>
          obtain rfl : i = K1 := by omega
          have hd2 : decide ((i : Int) < (i : Int)) = false := decide_eq_false (by omega)
          have hg := HG2.out
          rw [List.take_of_length_le (by have := HK1.out; omega), eraAll_body] at hg
          have HGE := Lib.hid hg
          obtain ⟨e1, e2⟩ := empty_tree hg
          have HE1 := Lib.hid e1
          have HE2 := Lib.hid e2
          clear hg e1 e2
          go_wp2_with fail
          refine (nodes_any HGE.out.tr).mono ?_
          rintro e x1 ⟨rfl, rfl⟩
          rw [HE1.out]
          go_wp2_with fail
          refine (len_any HGE.out.tr).mono ?_
          rintro e x2 ⟨rfl, rfl⟩
          rw [HE2.out]
          go_wp2_with fail
          go_ret
          exact ⟨rfl, HB2'.out⟩
        | succ gk =>
          have hin : i < K1 := by omega
          have hd2 : decide ((i : Int) < (K1 : Int)) = true := decide_eq_true (by omega)
          have hb1 : (0 : Int) ≤ (i : Int) := by omega
          have hb2 : (i : Int) < (K1 : Int) := by omega
          obtain ⟨m, hm⟩ : ∃ m, l[i]? = some m := ⟨_, List.getElem?_eq_getElem (show i < l.length by have := HK1.out; omega)⟩
          obtain ⟨b, off, rfl⟩ := row_open H1.out HK1.out (by omega)
          have hM := H1.out
          rw [← HK1.out] at hM
          obtain ⟨pv, k0, _, _, _, _⟩ := (hM.keep (Same.below HB2'.out)).one hm
          have HZ := Lib.hid (Z1.out m (List.mem_of_getElem? hm))
          have hstep : eraAll (l.take (i + 1)) (bodyOf l) = era (levels m.topic) (eraAll (l.take i) (bodyOf l)) := by
            unfold eraAll
            rw [List.take_add_one, hm, List.foldl_append]
            rfl
          have HST := Lib.hid hstep
          have hpay2 : ∀ e ∈ eraAll (l.take i) (bodyOf l), e.2.pay.length ≤ 1000000000 := fun e he => HP0.out e (eraAll_mem he).1
          have HDR := Lib.hid (tdrop_grove HG2.out hpay2 m.topic (by have := HZ.out.1; omega))
          clear hM hm hstep hpay2
          go_wp2_with fail
          refine HDR.out.mono ?_
          rintro e x1 ⟨t2, rfl, hg3, -, hgr3⟩
          rw [← HST.out] at hg3
          have HG3 := Lib.hid hg3
          have HB3' := Lib.hid (HB2'.out.grown hgr3 HB2'.out.size (fun k e => by injection e with e; omega))
          have HF3 := Lib.hid (show ∀ x, Since FT' wr x1 x → w.heap.size ≤ x from fun x hx => by
            rcases hx with hx | hx
            · exact HF2.out x hx
            · have := HB2'.out.size; omega)
          clear hg3 hgr3
          go_wp2_with fail
          refine (bound_any HG3.out.tr).mono ?_
          rintro e x2 ⟨rfl, rfl⟩
          go_wp2_with fail
          go_roundg gk
          case measure => omega
          case rel => exact ⟨i + 1, _, _, by omega, by go_num, HG3.out, HF3.out, HB3'.out⟩
    | succ gk =>
      have hjn : j < K2 := by omega
      have hd : decide ((j : Int) < (K2 : Int)) = true := decide_eq_true (by omega)
      have hb1 : (0 : Int) ≤ (j : Int) := by omega
      have hb2 : (j : Int) < (K2 : Int) := by omega
      obtain ⟨m, hm⟩ : ∃ m, more[j]? = some m := ⟨_, List.getElem?_eq_getElem (show j < more.length by have := HK2.out; omega)⟩
      obtain ⟨b, off, rfl⟩ := row_open H2.out HK2.out (by omega)
      have hM := H2.out
      rw [← HK2.out] at hM
      have HMM := Lib.hid (fun (W : World) (hb : Below w.heap.size w W) => (hM.keep (Same.below hb)).one hm)
      have HZ := Lib.hid (Z2.out m (List.mem_of_getElem? hm))
      obtain ⟨pv, k0, _, _, _, _⟩ := HMM.out _ HBW.out
      have hb_ := HGR.out.body
      have HGET := Lib.hid (get_any HGR.out.tr (fun e he => HP0.out e (by rw [← hb_]; exact he)) m.topic (by have := HZ.out.1; omega))
      rw [hb_] at HGET
      clear hM hm hb_
      go_wp2_with fail
      refine HGET.out.mono ?_
      rintro e x1 ⟨⟨vo, ⟨tt, ao, no, co, qo, ro, rfl⟩, rfl, hold⟩, hbx1⟩
      have HOLD := Lib.hid hold
      have HGA := Lib.hid (HGR.out.below hbx1)
      have HUA := Lib.hid (HGU.out.below hbx1)
      have HBA := Lib.hid (HBW.out.trans (hbx1.mono HBW.out.size))
      have hsa : wr.heap.size ≤ x1.heap.size := hbx1.size
      clear hold hbx1 k0
      obtain ⟨x2, hx2⟩ : ∃ x2, x1.alloc (.cells #[.string tt, .slice ao no co, .int .i64 qo, .bool ro] 30) = x2 := ⟨_, rfl⟩
      have go2 : x2.heap[x1.heap.size]? = some (.cells #[.string tt, .slice ao no co, .int .i64 qo, .bool ro] 30 (0, 0)) := by rw [← hx2]; exact (MapKept.heap_alloc x1 _).1
      have hbx2 : Below x1.heap.size x1 x2 := by rw [← hx2]; exact (Below.refl _ _).alloc (Nat.le_refl _) _
      have HGB := Lib.hid (HGA.out.below hbx2)
      have HUB := Lib.hid (HUA.out.below hbx2)
      have HBB := Lib.hid (HBA.out.trans (hbx2.mono HBA.out.size))
      have HOB := Lib.hid (show ∀ m', get (levels m.topic) (bodyOf l) = some m' → MsgVal (Fresh wr x1) x2 (.agg #[.string tt, .slice ao no co, .int .i64 qo, .bool ro]) m' from fun m' hm' => by
        obtain ⟨pv', e, h⟩ := HOLD.out m' hm'
        exact ⟨pv', e, h.keep (Same.below hbx2)⟩)
      obtain ⟨pv, k0, k1, k2, k3, M1⟩ := HMM.out _ HBB.out
      rw [← Nat.add_assoc] at k1 k2 k3
      have HM1 := Lib.hid M1
      have HPUT := Lib.hid (tput_any HGB.out HP0.out (by omega) HM1.out (by have := HZ.out.1; omega) (by have := HZ.out.2; omega))
      have HG2O := Lib.hid go2
      have hs2 : x2.heap.size = x1.heap.size + 1 := by rw [← hx2]; simp
      clear go2 hbx2 M1
      go_wp2_with fail
      refine HPUT.out.mono ?_
      rintro e x3 ⟨q, hq, rfl, hg3, hgr3⟩
      have htlt := HGA.out.tr.lt
      have htlt0 := HGR.out.tr.lt
      have gob3 : x3.heap[x1.heap.size]? = some (.cells #[.string tt, .slice ao no co, .int .i64 qo, .bool ro] 30 (0, 0)) := (hgr3.block _ (by omega) (fun e => by injection e with e; omega)).trans HG2O.out
      have HGOB := Lib.hid gob3
      have HBC := Lib.hid (HBB.out.grown hgr3 HBB.out.size (fun k e => by injection e with e; omega))
      have HUC := Lib.hid (HUB.out.grown hgr3 hne HFU.out)
      have HOC := Lib.hid (show ∀ m', get (levels m.topic) (bodyOf l) = some m' → MsgVal (Fresh wr x1) x3 (.agg #[.string tt, .slice ao no co, .int .i64 qo, .bool ro]) m' from fun m' hm' => by
        obtain ⟨pv', e, h⟩ := HOB.out m' hm'
        exact ⟨pv', e, h.keep (fun k hk hF => hgr3.block k hk (fun e => by injection e with e; have := hF.1; omega))⟩)
      have HFC := Lib.hid (show ∀ x, Since FT x2 x3 x → w.heap.size ≤ x from fun x hx => by
        rcases hx with hx | hx
        · exact HFT.out x hx
        · have := HBB.out.size; omega)
      have HGC := Lib.hid hg3
      clear gob3 hg3 hgr3 k0 k1 k2 k3
      cases ht : takes m with
      | false =>
        have hq1 : (q != 0) = true := by rw [bne_iff_ne]; intro e; rw [hq.2 e] at ht; cases ht
        have hput : putB (bodyOf l) m = bodyOf l := by unfold putB; rw [if_neg (by rw [show taken m = takes m from rfl, ht]; simp)]
        have hgc := HGC.out
        rw [hput] at hgc
        have HGD := Lib.hid hgc
        clear hgc hq hput
        simp only [Bool.false_and]
        go_wp2_with fail
        go_roundg gk
        case measure => omega
        case rel => exact ⟨j + 1, _, _, by omega, by go_num, HGD.out, HFC.out, HUC.out, HBC.out⟩
      | true =>
        obtain rfl : q = 0 := hq.1 ht
        have HT := Lib.hid ht
        have hkey := keyed_body l
        have hpp : ∀ e ∈ putB (bodyOf l) m, e.2.pay.length ≤ 1000000000 := fun e he => by
          rcases putB_mem he with h | h
          · rw [h]; have := HZ.out.2; omega
          · exact HP0.out e h
        have HPP := Lib.hid hpp
        have hlp := putB_length (bodyOf l) m
        cases hgm : get (levels m.topic) (bodyOf l) with
        | some old =>
          have hold := HOC.out old hgm
          have hback := back_put hkey ht hgm
          obtain ⟨hok, hot⟩ := get_key hkey hgm
          have hoz := HP0.out _ (get_mem hgm)
          have hos : old.topic.size ≤ 1000000000 := by
            have h1 : old ∈ l := body_mem (get_mem hgm)
            have := (Z1.out _ h1).1
            omega
          have HPUT2 := Lib.hid (tput_any HGC.out HPP.out (by omega) hold hos hoz)
          rw [hback] at HPUT2
          have o0 := cell4 HGOB.out 0 _ rfl
          have o1 := cell4 HGOB.out 1 _ rfl
          have o2 := cell4 HGOB.out 2 _ rfl
          have o3 := cell4 HGOB.out 3 _ rfl
          clear hq hkey hpp hold hback hok hoz hos hgm ht
          simp only [Option.isSome_some, Bool.and_true]
          go_wp2_with fail
          refine (bound_any HGC.out.tr).mono ?_
          rintro e y1 ⟨rfl, rfl⟩
          go_wp2_with fail
          refine HPUT2.out.mono ?_
          rintro e WX ⟨q2, -, rfl, hg4, hgr4⟩
          obtain ⟨TX, hTX⟩ : ∃ TX, putTree (putTree t m) old = TX := ⟨_, rfl⟩
          rw [hTX] at hg4
          have HGX := Lib.hid hg4
          have HBX := Lib.hid (HBC.out.grown hgr4 HBC.out.size (fun k e => by injection e with e; omega))
          have HUX := Lib.hid (HUC.out.grown hgr4 hne HFU.out)
          have hsz4 := HBC.out.size
          have HFX := Lib.hid (show ∀ x, Since (Since FT x2 y1) y1 WX x → w.heap.size ≤ x from fun x hx => by
            rcases hx with hx | hx
            · exact HFC.out x hx
            · omega)
          clear hg4 hgr4 o0 o1 o2 o3 hTX
          have hpb := HP0.out
          have HPB := Lib.hid hpb
          clear hpb
          go_wp2_with fail
          refine (tall_any WX tb).mono ?_
          rintro e a1 ⟨rfl, h1, hb1'⟩
          have HG1 := Lib.hid (HGX.out.below hb1')
          have HU1 := Lib.hid (HUX.out.below hb1')
          have HB1 := Lib.hid (HBX.out.trans (hb1'.mono HBX.out.size))
          clear hb1'
          go_wp2_with fail
          refine (given_all HG1.out HPB.out (by omega) h1).mono ?_
          rintro e a2 ⟨x2, rfl, hm2, hb2'⟩
          have HG2 := Lib.hid (HG1.out.below hb2')
          have HU2 := Lib.hid (HU1.out.below hb2')
          have HB2 := Lib.hid (HB1.out.trans (hb2'.mono HB1.out.size))
          have HM2 := Lib.hid hm2
          clear hb2' hm2 h1
          go_wp2_with fail
          refine (tall_any a2 ub).mono ?_
          rintro e a3 ⟨rfl, h1, hb3'⟩
          have HG3 := Lib.hid (HG2.out.below hb3')
          have HU3 := Lib.hid (HU2.out.below hb3')
          have HB3 := Lib.hid (HB2.out.trans (hb3'.mono HB2.out.size))
          have HM3 := Lib.hid (HM2.out.keep (Same.below hb3'))
          clear hb3'
          go_wp2_with fail
          refine (given_all HU3.out HPB.out (by omega) h1).mono ?_
          rintro e a4 ⟨x4, rfl, hm4, hb4'⟩
          have HG4 := Lib.hid (HG3.out.below hb4')
          have HU4 := Lib.hid (HU3.out.below hb4')
          have HB4 := Lib.hid (HB3.out.trans (hb4'.mono HB3.out.size))
          have HM4 := Lib.hid (HM3.out.keep (Same.below hb4'))
          have HN4 := Lib.hid hm4
          clear hb4' hm4 h1
          go_wp2_with fail
          refine (sameMsgs_any HM4.out HN4.out (by unfold vals; rw [List.length_map]; omega) (fun m hm => by obtain ⟨e, he, rfl⟩ := List.mem_map.1 hm; exact HPB.out e he)).mono ?_
          rintro e a5 ⟨bb, rfl, hbb, hb5'⟩
          obtain rfl : bb = true := hbb.2 rfl
          have HG5 := Lib.hid (HG4.out.below hb5')
          have HU5 := Lib.hid (HU4.out.below hb5')
          have HB5 := Lib.hid (HB4.out.trans (hb5'.mono HB4.out.size))
          clear hb5' hbb
          go_wp2_with fail
          refine (tshape_any HG5.out.tr (by rw [HG5.out.lv]; simp)).mono ?_
          rintro e a6 ⟨sv, ev, kv, rfl, hs6, hb6'⟩
          have HG6 := Lib.hid (HG5.out.below hb6')
          have HU6 := Lib.hid (HU5.out.below hb6')
          have HB6 := Lib.hid (HB5.out.trans (hb6'.mono HB5.out.size))
          have HS6 := Lib.hid hs6
          clear hb6' hs6
          go_wp2_with fail
          refine (tshape_any HU6.out.tr (by rw [HU6.out.lv]; simp)).mono ?_
          rintro e a7 ⟨sv2, ev2, kv2, rfl, hs7, hb7'⟩
          have htu := grove_one HG6.out HU6.out
          have HTU := Lib.hid htu
          have HG7 := Lib.hid (HG6.out.below hb7')
          have HU7 := Lib.hid (HU6.out.below hb7')
          have HB7 := Lib.hid (HB6.out.trans (hb7'.mono HB6.out.size))
          have HSA := Lib.hid (HS6.out.keep (Same.below hb7'))
          rw [← htu] at hs7
          have HSB := Lib.hid hs7
          have hval : u.val.isSome = TX.val.isSome := by rw [htu]
          rw [hval]
          have hsm := small_of HG7.out.tr.forest HG7.out.tr.lim (by rw [HG7.out.lv]; simp)
          have HSM := Lib.hid hsm
          clear hb7' hs7 htu hval hsm
          go_wp2_with fail
          have hcall := sameSh_any (shOf TX) _ _ _ _ _ _ _ _ _ HSA.out HSB.out (bare_of TX) HSM.out
          rw [shOf_here] at hcall
          refine hcall.mono ?_
          rintro e a8 ⟨rfl, hb8'⟩
          have HG8 := Lib.hid (HG7.out.below hb8')
          have HU8 := Lib.hid (HU7.out.below hb8')
          have HB8 := Lib.hid (HB7.out.trans (hb8'.mono HB7.out.size))
          clear hb8' hcall
          go_wp2_with fail
          refine (nodes_any HG8.out.tr).mono ?_
          rintro e a9 ⟨rfl, rfl⟩
          go_wp2_with fail
          refine (nodes_any HU8.out.tr).mono ?_
          rintro e a10 ⟨rfl, rfl⟩
          rw [← HTU.out]
          have hne : (((nodes TX : Nat) : Int) != ((nodes TX : Nat) : Int)) = false := by simp
          go_wp2_with fail
          go_roundg gk
          case measure => omega
          case rel => exact ⟨j + 1, _, _, by omega, by go_num, HG8.out, HFX.out, HU8.out, HB8.out⟩
        | none =>
          have hback := back_era hkey ht hgm
          have hsome : (get (levels m.topic) (putB (bodyOf l) m)).isSome = true := by rw [get_put hkey ht]; rfl
          have HDR := Lib.hid (tdrop_grove HGC.out HPP.out m.topic (by have := HZ.out.1; omega))
          rw [hback, hsome] at HDR
          obtain ⟨pv2, k0, _, _, _, _⟩ := HMM.out _ HBC.out
          clear hq hkey hpp hback hgm hsome ht
          simp only [Option.isSome_none, Bool.and_false]
          go_wp2_with fail
          refine (bound_any HGC.out.tr).mono ?_
          rintro e y1 ⟨rfl, rfl⟩
          go_wp2_with fail
          refine HDR.out.mono ?_
          rintro e WX ⟨TX, rfl, hg4, -, hgr4⟩
          have HGX := Lib.hid hg4
          have HBX := Lib.hid (HBC.out.grown hgr4 HBC.out.size (fun k e => by injection e with e; omega))
          have HUX := Lib.hid (HUC.out.grown hgr4 hne HFU.out)
          have hsz4 := HBC.out.size
          have HFX := Lib.hid (show ∀ x, Since (Since FT x2 y1) y1 WX x → w.heap.size ≤ x from fun x hx => by
            rcases hx with hx | hx
            · exact HFC.out x hx
            · omega)
          clear hg4 hgr4 k0
          have hpb := HP0.out
          have HPB := Lib.hid hpb
          clear hpb
          go_wp2_with fail
          refine (tall_any WX tb).mono ?_
          rintro e a1 ⟨rfl, h1, hb1'⟩
          have HG1 := Lib.hid (HGX.out.below hb1')
          have HU1 := Lib.hid (HUX.out.below hb1')
          have HB1 := Lib.hid (HBX.out.trans (hb1'.mono HBX.out.size))
          clear hb1'
          go_wp2_with fail
          refine (given_all HG1.out HPB.out (by omega) h1).mono ?_
          rintro e a2 ⟨x2, rfl, hm2, hb2'⟩
          have HG2 := Lib.hid (HG1.out.below hb2')
          have HU2 := Lib.hid (HU1.out.below hb2')
          have HB2 := Lib.hid (HB1.out.trans (hb2'.mono HB1.out.size))
          have HM2 := Lib.hid hm2
          clear hb2' hm2 h1
          go_wp2_with fail
          refine (tall_any a2 ub).mono ?_
          rintro e a3 ⟨rfl, h1, hb3'⟩
          have HG3 := Lib.hid (HG2.out.below hb3')
          have HU3 := Lib.hid (HU2.out.below hb3')
          have HB3 := Lib.hid (HB2.out.trans (hb3'.mono HB2.out.size))
          have HM3 := Lib.hid (HM2.out.keep (Same.below hb3'))
          clear hb3'
          go_wp2_with fail
          refine (given_all HU3.out HPB.out (by omega) h1).mono ?_
          rintro e a4 ⟨x4, rfl, hm4, hb4'⟩
          have HG4 := Lib.hid (HG3.out.below hb4')
          have HU4 := Lib.hid (HU3.out.below hb4')
          have HB4 := Lib.hid (HB3.out.trans (hb4'.mono HB3.out.size))
          have HM4 := Lib.hid (HM3.out.keep (Same.below hb4'))
          have HN4 := Lib.hid hm4
          clear hb4' hm4 h1
          go_wp2_with fail
          refine (sameMsgs_any HM4.out HN4.out (by unfold vals; rw [List.length_map]; omega) (fun m hm => by obtain ⟨e, he, rfl⟩ := List.mem_map.1 hm; exact HPB.out e he)).mono ?_
          rintro e a5 ⟨bb, rfl, hbb, hb5'⟩
          obtain rfl : bb = true := hbb.2 rfl
          have HG5 := Lib.hid (HG4.out.below hb5')
          have HU5 := Lib.hid (HU4.out.below hb5')
          have HB5 := Lib.hid (HB4.out.trans (hb5'.mono HB4.out.size))
          clear hb5' hbb
          go_wp2_with fail
          refine (tshape_any HG5.out.tr (by rw [HG5.out.lv]; simp)).mono ?_
          rintro e a6 ⟨sv, ev, kv, rfl, hs6, hb6'⟩
          have HG6 := Lib.hid (HG5.out.below hb6')
          have HU6 := Lib.hid (HU5.out.below hb6')
          have HB6 := Lib.hid (HB5.out.trans (hb6'.mono HB5.out.size))
          have HS6 := Lib.hid hs6
          clear hb6' hs6
          go_wp2_with fail
          refine (tshape_any HU6.out.tr (by rw [HU6.out.lv]; simp)).mono ?_
          rintro e a7 ⟨sv2, ev2, kv2, rfl, hs7, hb7'⟩
          have htu := grove_one HG6.out HU6.out
          have HTU := Lib.hid htu
          have HG7 := Lib.hid (HG6.out.below hb7')
          have HU7 := Lib.hid (HU6.out.below hb7')
          have HB7 := Lib.hid (HB6.out.trans (hb7'.mono HB6.out.size))
          have HSA := Lib.hid (HS6.out.keep (Same.below hb7'))
          rw [← htu] at hs7
          have HSB := Lib.hid hs7
          have hval : u.val.isSome = TX.val.isSome := by rw [htu]
          rw [hval]
          have hsm := small_of HG7.out.tr.forest HG7.out.tr.lim (by rw [HG7.out.lv]; simp)
          have HSM := Lib.hid hsm
          clear hb7' hs7 htu hval hsm
          go_wp2_with fail
          have hcall := sameSh_any (shOf TX) _ _ _ _ _ _ _ _ _ HSA.out HSB.out (bare_of TX) HSM.out
          rw [shOf_here] at hcall
          refine hcall.mono ?_
          rintro e a8 ⟨rfl, hb8'⟩
          have HG8 := Lib.hid (HG7.out.below hb8')
          have HU8 := Lib.hid (HU7.out.below hb8')
          have HB8 := Lib.hid (HB7.out.trans (hb8'.mono HB7.out.size))
          clear hb8' hcall
          go_wp2_with fail
          refine (nodes_any HG8.out.tr).mono ?_
          rintro e a9 ⟨rfl, rfl⟩
          go_wp2_with fail
          refine (nodes_any HU8.out.tr).mono ?_
          rintro e a10 ⟨rfl, rfl⟩
          rw [← HTU.out]
          have hne : (((nodes TX : Nat) : Int) != ((nodes TX : Nat) : Int)) = false := by simp
          go_wp2_with fail
          go_roundg gk
          case measure => omega
          case rel => exact ⟨j + 1, _, _, by omega, by go_num, HG8.out, HFX.out, HU8.out, HB8.out⟩

set_option maxRecDepth 100000 in
theorem lifted (os : Os) (started : os.Started) (H : Type) (enc : TypeId × Value → H) :
    ReturnsInHanded {} Try.checked os 3 .any (Rows.rettrieBoundSpec.pre6 enc Try.prog Try.f3 Rows.rettrieBoundRow.domain false) (Rows.rettrieBoundSpec.post enc Try.prog Try.f3 false true false false) := by
  refine returnsInHanded_of_change_sized (C := Try.checked) own started (by kernel_rfl) Try.func3
    (ChangeSpec.witness6 (enc := enc) (C := Try.checked) false ⟨#[], #[.slice none 0 0, .slice none 0 0], []⟩ 8 (by kernel_rfl) (by kernel_rfl) (by kernel_rfl) (by kernel_rfl)) ?_
  intro W base args ds gs before hval0 hW hcnd hsz0 _
  have hval : ∀ (j : Nat) t v, Try.f3.params[j]? = some t → args[j]? = some v → Value.okWide Try.prog W .any base t v := hval0
  have hW' := hW
  obtain ⟨p, q, hA0, hV, rfl, hfz, hnd⟩ := hW
  have hA : DataW.TrodAll enc Try.prog W 0 (fun _ => true) true Try.f3.params.toList args.toList ds p := hA0
  have hsz : (DataW.weightsEach Try.prog (Try.f3.params.toList ++ Rows.rettrieBoundSpec.plain.varTypes Try.prog) (ds ++ gs)).all (· ≤ reachBytes) = true := hsz0
  rw [Try.params3] at hA hval hsz
  obtain ⟨v0, vs0, d0, ds0, p0, q0, hargs, rfl, rfl, h0, r0⟩ := trodAll_cons hA
  obtain ⟨v1, vs1, d1, ds1, p1, q1, rfl, rfl, rfl, h1, r1⟩ := trodAll_cons r0
  obtain ⟨rfl, rfl, rfl⟩ := trodAll_nil r1
  obtain rfl : args = #[v0, v1] := by cases args; simp_all
  obtain ⟨rfl, rfl⟩ := trodVars_none hV
  obtain ⟨l, M0, S0⟩ := open_msgs (okWide_slice Try.underlying22 (hval 0 22 v0 rfl rfl)) h0
  obtain ⟨more, M1, S1⟩ := open_msgs (okWide_slice Try.underlying22 (hval 1 22 v1 rfl rfl)) h1
  have t0 := (S0 (fun k hk => of_decide_eq_true (List.all_eq_true.1 hsz _ (DataW.weights_mem_each (j := 0) (t := 22) rfl rfl k hk)))).2
  have t1 := (S1 (fun k hk => of_decide_eq_true (List.all_eq_true.1 hsz _ (DataW.weights_mem_each (j := 1) (t := 22) rfl rfl k hk)))).2
  clear hA0 hval0 hsz0
  simp only [List.append_nil, List.nil_append] at hW'
  have hr : reachBytes ≤ 200000000000000 := by decide
  refine (walk l more v0 v1 W M0 M1 (fun m hm => by have := t0 m hm; omega) (fun m hm => by have := t1 m hm; omega)).mono fun e W' ⟨he, hg⟩ => ?_
  subst he
  have hshut := (trodAll_cons_mk (again msgs_readable msgs_row h0 hg) (trodAll_cons_mk (again msgs_readable msgs_row h1 hg) trodAll_mk0))
  simp only [List.append_nil, List.nil_append] at hshut
  exact ⟨_, rfl, law_post hW' hg (fun _ => (trodAll_cons_mk (shut_bool Try.underlying4 _) trodAll_mk0)) hshut rfl⟩

theorem over : Rows.rettrieBoundRow.holds Try.pinned (OpenSpec.ofChange Rows.rettrieBoundSpec) :=
  OpenClaim.holds_of_wide 3 Try.f3 rfl rfl rfl rfl rfl rfl rfl ⟨rfl, rfl, rfl, rfl, rfl⟩ rfl rfl rfl rfl rfl (by kernel_rfl) Try.func3 (by kernel_rfl)
    (of_decide_eq_true (by kernel_rfl)) (by unfold Func.isWrapper; first | (rw [if_pos (by decide +kernel)]; kernel_rfl) | (rw [if_neg (by decide +kernel)]; exact ⟨rfl, rfl⟩))
    (fun os started H enc _ => lifted os started H enc)

theorem proved : Rows.RettrieBoundSaid :=
  over
#print axioms proved
end Go.Proofs.Ytgnffkahlniehaa.rettrieBound
