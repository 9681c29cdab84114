/- Proved here: the contract of window's Ack. -/
import Derived.Test.YtppndkbicekkjaaPkFD
import Derived.Test.YtppndkbicekkjaaPkFC
import Derived.Sort.Walk0
import Derived.WalkLawsBesides
import Derived.Test.YtppndkbicekkjaaPkFB
import Derived.Test.YtppndkbicekkjaaProg
import Derived.Test.YtppndkbicekkjaaPkFA
import Derived.WalkKit
import Derived.Shelf.RegionOpenPlain
import Derived.Laws.Externs
import Derived.Deep.RegionLaw
import Derived.Lib.Hide
import Derived.Lib.SliceRun
import Derived.Shelf.SlicesE.Delete
import Derived.WalkSpells
import Derived.Lib.LazyBuf
namespace Go.Proofs.Ytppndkbicekkjaa
open Go Go.RowKit Go.Proofs.Gs Go.Proofs.Rt Go.Proofs.Sw Go.Proofs.Rg
open Go.Proofs.Cc (Turn Grow)

theorem Small.cut {W : Win} (h : Small W) (i : Nat) : Small { W with fl := W.fl.eraseIdx i } :=
  ⟨h.win, h.que, h.last, by show (W.fl.eraseIdx i).length ≤ W.win; have := List.length_eraseIdx_le W.fl i; have := h.fl; omega, h.wt, fun f hf => h.fs f (List.mem_of_mem_eraseIdx hf), h.ws⟩
theorem Small.put {W : Win} (h : Small W) (i : Nat) (f : Fl) (hf : f.msg.pay.length ≤ 1000000000) : Small { W with fl := W.fl.set i f } :=
  ⟨h.win, h.que, h.last, by show (W.fl.set i f).length ≤ W.win; rw [List.length_set]; exact h.fl, h.wt, fun x hx => by rcases List.mem_or_eq_of_mem_set hx with hx | rfl; exact h.fs x hx; exact hf, h.ws⟩

set_option maxHeartbeats 4000000 in
set_option maxRecDepth 100000 in
theorem ack_any {M F : Nat → Prop} {w : World} {wb rb : Nat} {W : Win} {fv wv : Value} (h : WinAt M F w wb W fv wv rb) (hs : Small W) (kind : Int) (id : Nat) :
    Calls Try.prog 12 #[.pointer (some ⟨wb, 0, none⟩), .int .i64 kind, .int .i64 (id : Nat)] w fun e w' => ∃ v M' F', e = .returned v ∧ PksGro w.heap.size M' F' w' v (ackW W kind id).2 ∧ WinPost M F M' F' w w' wb rb (ackW W kind id).1 ∧ Small (ackW W kind id).1 := by
  have hlen : W.fl.length ≤ 65535 := by have := hs.fl; have := hs.win; omega
  have HPL := Lib.hid (place_any h id (by omega))
  have HH := Lib.hid h
  have HS := Lib.hid hs
  cases hh : has W.fl id with
  | false =>
    have hres : ackW W kind id = (W, []) := by
      unfold ackW
      rw [spotF_end hh, List.getElem?_eq_none (Nat.le_refl _)]
    rw [hres]
    rw [hh] at HPL
    simp only [Bool.false_eq_true, if_false] at HPL
    clear hres hh h hs hlen
    go_enter Try.func12, Try.ntmps12
    go_wp2_with fail
    refine HPL.out.mono ?_
    rintro e w1 ⟨rfl, hb1⟩
    have HB1 := Lib.hid hb1
    clear hb1
    go_wp2_with fail
    go_ret
    have hbb : Below w.heap.size w w1 := HB1.out
    first | exact ⟨_, M, F, rfl, PksGro.nil _ _ _ _, (WinPost.refl HH.out).more hbb, HS.out⟩ | exact ⟨_, rfl, M, F, PksGro.nil _ _ _ _, (WinPost.refl HH.out).more hbb, HS.out⟩
  | true =>
    rw [hh] at HPL
    simp only [if_true] at HPL
    obtain ⟨i, hi⟩ : ∃ i, spotF W.fl id = i := ⟨_, rfl⟩
    have hlt := spotF_lt hh
    rw [hi] at HPL hlt
    obtain ⟨f, hf⟩ : ∃ f, W.fl[i]? = some f := ⟨_, List.getElem?_eq_getElem hlt⟩
    cases hon : W.on with
    | false =>
      have hres : ackW W kind id = (W, []) := by
        unfold ackW
        rw [hi, hf]
        simp only
        rw [if_pos hon]
      rw [hres]
      have c6 : w.cell? ⟨wb, 6, none⟩ = some (.bool W.on) := h.cell 6 _ rfl
      rw [hon] at c6
      clear hres hh h hs hlen hf hlt hi hon
      go_enter Try.func12, Try.ntmps12
      go_wp2_with fail
      refine HPL.out.mono ?_
      rintro e w1 ⟨rfl, hb1⟩
      have c6 := cell_below' hb1 c6
      have HB1 := Lib.hid hb1
      clear hb1
      have hlt0 : decide ((i : Int) < 0) = false := decide_eq_false (by omega)
      go_wp2_with fail
      go_ret
      have hbb : Below w.heap.size w w1 := HB1.out
      first | exact ⟨_, M, F, rfl, PksGro.nil _ _ _ _, (WinPost.refl HH.out).more hbb, HS.out⟩ | exact ⟨_, rfl, M, F, PksGro.nil _ _ _ _, (WinPost.refl HH.out).more hbb, HS.out⟩
    | true =>
      have hlen2 : W.fl.length ≤ 65535 := hlen
      obtain ⟨fa, fc, rfl⟩ := h.fslice
      obtain ⟨css, hels, hown⟩ := h.fls
      have hrow := h.freads
      obtain ⟨gb, go, rfl⟩ : ∃ gb go, fa = some ⟨gb, go, none⟩ := by
        obtain ⟨css, _, hr⟩ := hrow
        rcases RowAt.cases hr with ⟨h0, _⟩ | ⟨_, b, o, c, e, _⟩
        · omega
        · injection e with e1 e2 e3
          exact ⟨b, o, e1⟩
      obtain ⟨cs, ⟨pv, rfl, hpf⟩, hc⟩ := hrow.one eltFl hf
      obtain ⟨pa, pc, rfl⟩ := pay_slice hpf
      obtain ⟨pn, hpn⟩ : ∃ pn, f.msg.pay.length = pn := ⟨_, rfl⟩
      obtain ⟨K, hK⟩ : ∃ K, W.fl.length = K := ⟨_, rfl⟩
      obtain ⟨rl, hrl⟩ : ∃ rl, f.rel = rl := ⟨_, rfl⟩
      rw [hpn] at hc
      have k1 : w.cell? ⟨gb, go + (i * 6 + 1), none⟩ = some (.string f.msg.topic) := hc 1 _ rfl
      have k2 : w.cell? ⟨gb, go + (i * 6 + 2), none⟩ = some (.slice pa pn pc) := hc 2 _ rfl
      have k3 : w.cell? ⟨gb, go + (i * 6 + 3), none⟩ = some (.int .i64 f.msg.qos) := hc 3 _ rfl
      have k4 : w.cell? ⟨gb, go + (i * 6 + 4), none⟩ = some (.bool f.msg.ret) := hc 4 _ rfl
      have k5 : w.cell? ⟨gb, go + (i * 6 + 5), none⟩ = some (.bool f.rel) := hc 5 _ rfl
      rw [hrl] at k5
      rw [← Nat.add_assoc] at k1 k2 k3 k4 k5
      have c3 : w.cell? ⟨wb, 3, none⟩ = some (.slice (some ⟨gb, go, none⟩) W.fl.length fc) := h.cell 3 _ rfl
      have c6 : w.cell? ⟨wb, 6, none⟩ = some (.bool W.on) := h.cell 6 _ rfl
      rw [hon] at c6
      rw [hK] at c3 hlen hlt
      have hlt0 : decide ((i : Int) < 0) = false := decide_eq_false (by omega)
      have hq1 : (0 : Int) ≤ (i : Int) := by omega
      have hq2 : (i : Int) < (K : Int) := by omega
      obtain ⟨T, hT⟩ : ∃ T, ackW W kind id = T := ⟨_, rfl⟩
      rw [hT]
      have hT2 := hT
      unfold ackW at hT2
      rw [hi, hf] at hT2
      dsimp only at hT2
      rw [if_neg (by rw [hon]; simp), hrl] at hT2
      have HTT := Lib.hid hT2
      have HK := Lib.hid hK
      have HPN := Lib.hid hpn
      have HRL := Lib.hid hrl
      have HF := Lib.hid hf
      have HPF := Lib.hid hpf
      have HELS := Lib.hid hels
      have HOWN := Lib.hid hown
      have HQU := Lib.hid (fun (X : World) => quality_any (w := X) (f := ⟨id, f.msg, false⟩) (pv := .slice pa pn pc) (n := pn) ⟨pa, pc, rfl⟩)
      rw [show qualF ⟨id, f.msg, false⟩ = f.msg.qos from rfl] at HQU
      clear hT hT2 hK hpn hrl hf hpf hels hown hrow hc hh h hs hon hlen2
      go_enter Try.func12, Try.ntmps12
      go_wp2_with fail
      refine HPL.out.mono ?_
      rintro e w1 ⟨rfl, hb1⟩
      have c3 := cell_below' hb1 c3
      have c6 := cell_below' hb1 c6
      have k1 := cell_below' hb1 k1
      have k2 := cell_below' hb1 k2
      have k3 := cell_below' hb1 k3
      have k4 := cell_below' hb1 k4
      have k5 := cell_below' hb1 k5
      have HB1 := Lib.hid hb1
      clear hb1
      go_wp2_with fail
      refine (HQU.out _).mono ?_
      rintro e w2 ⟨rfl, hb2⟩
      have c3 := cell_below' hb2 c3
      have c6 := cell_below' hb2 c6
      have k1 := cell_below' hb2 k1
      have k2 := cell_below' hb2 k2
      have k3 := cell_below' hb2 k3
      have k4 := cell_below' hb2 k4
      have k5 := cell_below' hb2 k5
      have HB2 := Lib.hid (HB1.out.trans (hb2.mono HB1.out.size))
      clear hb2
      go_upto_region 6 with fail
      go_cut [35] (fun s35 wx => ∃ b, s35 = .bool b ∧ (b = true ↔ (kind = 4 ∧ rl = false ∧ f.msg.qos = 1)) ∧ wx = w2)
      case first =>
        by_cases h4 : kind = 4
        · subst h4
          have hd4 : ((4 : Int) == 4) = true := rfl
          cases rl with
          | true =>
            go_wp2_with fail
            go_meet
            case rel => exact ⟨_, rfl, by simp, rfl⟩
          | false =>
            by_cases hq : f.msg.qos = 1
            · have hdq : (f.msg.qos == 1) = true := by rw [hq]; rfl
              have HQ := Lib.hid hq
              clear hq
              go_wp2_with fail
              go_meet
              case rel => exact ⟨_, rfl, by simp [HQ.out], rfl⟩
            · have hdq : (f.msg.qos == 1) = false := by rw [beq_eq_false_iff_ne]; exact hq
              have HQ := Lib.hid hq
              clear hq
              go_wp2_with fail
              go_meet
              case rel => exact ⟨_, rfl, by simp [HQ.out], rfl⟩
        · have hd4 : (kind == 4) = false := by rw [beq_eq_false_iff_ne]; exact h4
          have H4 := Lib.hid h4
          clear h4
          go_wp2_with fail
          go_meet
          case rel => exact ⟨_, rfl, by simp [H4.out], rfl⟩
      obtain ⟨b, rfl, hb0, rfl⟩ := hcut
      go_upto_if 35 with fail
      go_cut [35] (fun s35 wx => ∃ b, s35 = .bool b ∧ (b = true ↔ (kind = 4 ∧ rl = false ∧ f.msg.qos = 1) ∨ (kind = 7 ∧ rl = true)) ∧ wx = wc)
      case first =>
        cases b with
        | true =>
          have H0 := Lib.hid (hb0.1 rfl)
          clear hb0
          go_wp2_with fail
          go_meet
          case rel => exact ⟨_, rfl, ⟨fun _ => .inl H0.out, fun _ => rfl⟩, rfl⟩
        | false =>
          have H0 := Lib.hid (fun hx => Bool.noConfusion (hb0.2 hx) : ¬ (kind = 4 ∧ rl = false ∧ f.msg.qos = 1))
          clear hb0
          by_cases h7 : kind = 7
          · have hd7 : (kind == 7) = true := by rw [h7]; rfl
            have H7 := Lib.hid h7
            clear h7
            cases rl with
            | true =>
              go_wp2_with fail
              go_meet
              case rel => exact ⟨_, rfl, ⟨fun _ => .inr ⟨H7.out, by trivial⟩, fun _ => rfl⟩, rfl⟩
            | false =>
              go_wp2_with fail
              go_meet
              case rel => exact ⟨_, rfl, ⟨(fun h => (by cases h)), fun h => h.elim (fun h => absurd h H0.out) (fun h => (by cases h.2))⟩, rfl⟩
          · have hd7 : (kind == 7) = false := by rw [beq_eq_false_iff_ne]; exact h7
            have H7 := Lib.hid h7
            clear h7
            go_wp2_with fail
            go_meet
            case rel => exact ⟨_, rfl, ⟨(fun h => (by cases h)), fun h => h.elim (fun h => absurd h H0.out) (fun h => absurd h.1 H7.out)⟩, rfl⟩
      case rest =>
        obtain ⟨b, rfl, hb, rfl⟩ := hcut
        cases b with
        | true =>
          have hdel := hb.1 rfl
          have hT := HTT.out
          rw [if_pos hdel] at hT
          have HTX := Lib.hid hT
          have HCL := Lib.hid (cloneL_any (w := wc) (v := .slice (some ⟨gb, go, none⟩) K fc) (n := K) (xs := css.flatten) (by
            have h1 := (HH.out.below HB2.out).freads
            have h2 := (HOWN.out.keep (w' := wc) (fun b e => HB2.out.block b (HOWN.out.bound e).2)).row
            rw [HK.out] at h2
            exact h2) (by omega) (HELS.out.cells eltFl).2)
          clear hb hdel hT k1 k2 k3 k4 k5
          go_wp2_with fail
          refine HCL.out.mono ?_
          rintro e w3 ⟨v3, rfl, hown3, hb3⟩
          have c3 := cell_below' hb3 c3
          have HDL := Lib.hid (delL_any hown3 hlt (by omega) (HELS.out.cells eltFl).2)
          have HB3 := Lib.hid (HB2.out.trans (hb3.mono HB2.out.size))
          have HO3 := Lib.hid (fun b e => (ownsRow_bd hown3 (b := b) e).1)
          have HZ3 := Lib.hid hb3.size
          clear hb3 hown3
          go_wp2_with fail
          refine HDL.out.mono ?_
          rintro e w4 ⟨v4, rfl, hown4, hg4, ho4⟩
          have hz2 := HB2.out.size
          have hb4 : Below w.heap.size w w4 := HB3.out.grown hg4 HB3.out.size (fun b e => by have := HO3.out b e; omega)
          have f3 := frozen_of_row w4 wb 3 _ _ (HH.out.below hb4).row
          have c3 : w4.cell? ⟨wb, 3, none⟩ = _ := (HH.out.below hb4).cell 3 _ rfl
          rw [HK.out] at c3
          have hwz : w.heap.size ≤ w4.heap.size := hb4.size
          have HCUT := Lib.hid (fun V hV => HH.out.cutF (V := V) (i := i) HELS.out (by rw [HK.out]; exact hlt) hb4 (by rw [HK.out]; exact hown4) (fun b e => by rw [ho4] at e; have := HO3.out b e; omega) hV)
          obtain ⟨_, a4, c4, hv4, _⟩ := RowAt.of_owns hown4
          subst hv4
          clear hown4 hg4 ho4 hz2 hb4 hwz c6
          go_wp2_with fail
          obtain ⟨w5, hw5⟩ : ∃ w5, w4.setCell ⟨wb, 3, none⟩ (.slice a4 (K - 1) c4) = w5 := ⟨_, rfl⟩
          have hp5 := HCUT.out w5 hw5
          rw [hw5]
          obtain ⟨fv5, wv5, hat5⟩ := hp5.at'
          have HF5 := Lib.hid (fill_any hat5 (HS.out.cut i))
          have HP5 := Lib.hid hp5
          clear hat5 hp5 hw5 f3 c3
          go_wp2_with fail
          refine HF5.out.mono ?_
          rintro e w6 ⟨v6, M6, F6, rfl, hp6, hw6, hs6⟩
          have hz := HP5.out.turn.size
          have hfin := HP5.out.trans hw6
          have HFIN := Lib.hid hfin
          have HPK := Lib.hid (hp6.lower hz)
          have HS6 := Lib.hid hs6
          clear hp6 hw6 hs6 hz hfin
          go_wp2_with fail
          go_ret
          rw [← HTX.out]
          first | exact ⟨_, M6, F6, rfl, HPK.out, HFIN.out, HS6.out⟩ | exact ⟨_, rfl, M6, F6, HPK.out, HFIN.out, HS6.out⟩
        | false =>
          have hnd : ¬ ((kind = 4 ∧ rl = false ∧ f.msg.qos = 1) ∨ (kind = 7 ∧ rl = true)) := fun hx => by have := hb.2 hx; cases this
          have hT := HTT.out
          rw [if_neg hnd] at hT
          have HTX := Lib.hid hT
          clear hb hnd hT c3 c6
          by_cases h5 : kind = 5
          · have hd5 : (kind == 5) = true := by rw [h5]; rfl
            by_cases hrq : rl = true ∨ f.msg.qos = 2
            · have hT := HTX.out
              rw [if_pos ⟨h5, hrq⟩] at hT
              have HTY := Lib.hid hT
              have hacc : ∃ wp, wp = wc := ⟨_, rfl⟩
              have HATC := Lib.hid (HH.out.below HB2.out)
              have hoc := HOWN.out.keep (w' := wc) (fun b e => HB2.out.block b (HOWN.out.bound e).2)
              obtain ⟨hxl, ho⟩ := hoc
              obtain ⟨cap, cur, hcur, hfit⟩ : ∃ cap cur, wc.heap[gb]? = some (.cells cur 86 (0, 0)) ∧ go + K * 6 ≤ cur.size := by
                rcases ho with ⟨e, _⟩ | ⟨g, off, cap, cur, e, _, hg, hnc, hcm, hfit, hx⟩
                · cases e
                · injection e with q1 q2 q3
                  injection q1 with q1
                  injection q1 with q1 q4
                  subst q1; subst q4
                  have : K * 6 ≤ cap * 6 := Nat.mul_le_mul_right _ (by rw [HK.out] at hnc; exact hnc)
                  exact ⟨cap, cur, hg, by omega⟩
              have k0 : wc.cell? ⟨gb, go + i * 6, none⟩ = some (.int .i64 (f.id : Nat)) := by
                obtain ⟨cs0, ⟨pv0, rfl, _⟩, hc0⟩ := HATC.out.freads.one eltFl HF.out
                have := hc0 0 _ rfl
                rw [Nat.add_zero] at this
                exact this
              have ff := fun j => frozen_of_row wc gb j _ _ hcur
              have hpub : pub false (⟨id, noMsg, true⟩ : Fl) = ⟨6, id, false, noMsg⟩ := rfl
              have HPUT := Lib.hid (fun V hV => HATC.out.putF (V := V) (f := ⟨id, noMsg, true⟩) (cs := flCells ⟨id, noMsg, true⟩ (.slice none 0 0)) (by rw [HK.out]; exact hlt) ⟨_, rfl, no_pay _ _⟩ hV)
              clear hT hacc hxl ho hfit hpub
              have hcs : rl = true ∨ (rl = false ∧ (f.msg.qos == 2) = true) := by
                cases rl with
                | true => exact .inl rfl
                | false => exact .inr ⟨rfl, by rcases hrq with e | e; cases e; rw [e]; rfl⟩
              clear hrq
              rcases hcs with hr1 | ⟨hr1, hd2⟩ <;> subst hr1
              all_goals
                go_upto_region 12 with fail
                obtain ⟨V, hV⟩ : ∃ V, (((((wc.setCell ⟨gb, go + i * 6, none⟩ (.int .i64 (id : Nat))).setCell ⟨gb, go + i * 6 + 1, none⟩ (.string ⟨#[]⟩)).setCell ⟨gb, go + i * 6 + 2, none⟩ (.slice none 0 0)).setCell ⟨gb, go + i * 6 + 3, none⟩ (.int .i64 0)).setCell ⟨gb, go + i * 6 + 4, none⟩ (.bool false)).setCell ⟨gb, go + i * 6 + 5, none⟩ (.bool true) = V := ⟨_, rfl⟩
                rw [hV]
                obtain ⟨hatV, htV, hsV⟩ := HPUT.out V hV
                obtain ⟨cs1, ⟨pv1, rfl, hp1⟩, hc1⟩ := hatV.freads.one eltFl (i := i) (a := ⟨id, noMsg, true⟩) (by rw [List.getElem?_set, if_pos rfl, if_pos (by rw [HK.out]; exact hlt)])
                obtain ⟨pa1, pc1, rfl⟩ := pay_slice hp1
                have n0 : V.cell? ⟨gb, go + (i * 6 + 0), none⟩ = some (.int .i64 (id : Nat)) := hc1 0 _ rfl
                have n1 : V.cell? ⟨gb, go + (i * 6 + 1), none⟩ = some (.string ⟨#[]⟩) := hc1 1 _ rfl
                have n2 : V.cell? ⟨gb, go + (i * 6 + 2), none⟩ = some (.slice pa1 0 pc1) := hc1 2 _ rfl
                have n3 : V.cell? ⟨gb, go + (i * 6 + 3), none⟩ = some (.int .i64 0) := hc1 3 _ rfl
                have n4 : V.cell? ⟨gb, go + (i * 6 + 4), none⟩ = some (.bool false) := hc1 4 _ rfl
                have n5 : V.cell? ⟨gb, go + (i * 6 + 5), none⟩ = some (.bool true) := hc1 5 _ rfl
                rw [Nat.add_zero] at n0
                rw [← Nat.add_assoc] at n1 n2 n3 n4 n5
                have HPC := Lib.hid (packet_any (w := V) (f := ⟨id, noMsg, true⟩) hp1 false (Nat.zero_le _))
                rw [show pub false (⟨id, noMsg, true⟩ : Fl) = ⟨6, id, false, noMsg⟩ from rfl] at HPC
                have hwp : WinPost M F M F w V wb rb { W with fl := W.fl.set i ⟨id, noMsg, true⟩ } := ⟨⟨_, _, hatV⟩, fun _ h => h, fun _ h => .inl h, fun _ h => h, fun _ h => .inl h, (Turn.of_below (S := M) HB2.out).trans' htV (fun x hx => .inl hx)⟩
                have HWP := Lib.hid hwp
                have hzz : w.heap.size ≤ V.heap.size := hwp.turn.size
                have HZZ := Lib.hid hzz
                have HFR := Lib.hid (fun b hb => (hatV.lim b hb))
                clear hV hatV htV hsV hp1 hc1 hwp hzz k0 k1 k2 k3 k4 k5 ff hcur
                go_wp2_with fail
                refine HPC.out.mono ?_
                rintro e w5 ⟨pv5, rfl, hp5, hb5⟩
                have hz := hb5.size
                obtain ⟨hg5, hpo5⟩ := pks_single (p := ⟨6, id, false, noMsg⟩) (Z := w.heap.size) (by have := HZZ.out; omega) (HWP.out.more hb5) rfl (hp5.mono (fun x hx => ⟨by have := hx.1; have := HZZ.out; omega, hx.2, fun hm => by have := HFR.out x hm; have := hx.1; omega⟩))
                have HG5 := Lib.hid hg5
                have HPO := Lib.hid hpo5
                clear hp5 hb5 hz hg5 hpo5 n0 n1 n2 n3 n4 n5
                go_wp2_with (refine wpList_pk rfl _ rfl _ rfl (by rfl) ?_)
                go_ret
                rw [← HTY.out]
                have hsm := HS.out.put i ⟨id, noMsg, true⟩ (Nat.zero_le _)
                first | exact ⟨_, M, F, rfl, HG5.out, HPO.out, hsm⟩ | exact ⟨_, rfl, M, F, HG5.out, HPO.out, hsm⟩
            · have hr0 : rl = false := by cases rl with | true => exact absurd (.inl rfl) hrq | false => rfl
              have hq0 : (f.msg.qos == 2) = false := by rw [beq_eq_false_iff_ne]; exact fun e => hrq (.inr e)
              have hT := HTX.out
              rw [if_neg (fun h => hrq h.2)] at hT
              have HTY := Lib.hid hT
              subst hr0
              clear hT hrq h5
              go_wp2_with fail
              go_ret
              rw [← HTY.out]
              first | exact ⟨_, M, F, rfl, PksGro.nil _ _ _ _, (WinPost.refl HH.out).more HB2.out, HS.out⟩ | exact ⟨_, rfl, M, F, PksGro.nil _ _ _ _, (WinPost.refl HH.out).more HB2.out, HS.out⟩
          · have hd5 : (kind == 5) = false := by rw [beq_eq_false_iff_ne]; exact h5
            have hT := HTX.out
            rw [if_neg (fun h => h5 h.1)] at hT
            have HTX := Lib.hid hT
            clear hT h5
            go_wp2_with fail
            go_ret
            rw [← HTX.out]
            first | exact ⟨_, M, F, rfl, PksGro.nil _ _ _ _, (WinPost.refl HH.out).more HB2.out, HS.out⟩ | exact ⟨_, rfl, M, F, PksGro.nil _ _ _ _, (WinPost.refl HH.out).more HB2.out, HS.out⟩
end Go.Proofs.Ytppndkbicekkjaa

/- Proved here: window's calls as the session's; packets that abide; what a list of one packet reads as. -/
namespace Go.Proofs.Ytppndkbicekkjaa
open Go Go.RowKit Go.Proofs.Gs Go.Proofs.Rt Go.Proofs.Sw Go.Proofs.Rg
open Go.Proofs.Cc (Turn Grow)

theorem ses_up {M F : Nat → Prop} {w : World} {sb : Nat} {S : Ses} (h : SesAt M F w sb S) (hs : Small S.win) : ∃ wb, w.cell? ⟨sb, 0, none⟩ = some (.pointer (some ⟨wb, 0, none⟩)) ∧
    Calls Try.prog 10 #[.pointer (some ⟨wb, 0, none⟩)] w fun e w' => ∃ v M' F', e = .returned v ∧ PksGro w.heap.size M' F' w' v (upW S.win).2 ∧ SesPost M F M' F' w w' sb { S with win := (upW S.win).1 } := by
  have hlim := h.lim
  obtain ⟨Mw, wb, rb, nb, fv, wv, sv, h⟩ := h
  refine ⟨wb, h.cell 0 _ rfl, (up_any h.win hs).mono ?_⟩
  rintro e w' ⟨v, M', F', rfl, h1, h2, _⟩
  exact ⟨v, _, F', rfl, h1.session hlim, h.winPost h2⟩
theorem ses_ack {M F : Nat → Prop} {w : World} {sb : Nat} {S : Ses} (h : SesAt M F w sb S) (hs : Small S.win) : ∃ wb, w.cell? ⟨sb, 0, none⟩ = some (.pointer (some ⟨wb, 0, none⟩)) ∧ ∀ (kind : Int) (id : Nat),
    Calls Try.prog 12 #[.pointer (some ⟨wb, 0, none⟩), .int .i64 kind, .int .i64 (id : Nat)] w fun e w' => ∃ v M' F', e = .returned v ∧ PksGro w.heap.size M' F' w' v (ackW S.win kind id).2 ∧ SesPost M F M' F' w w' sb { S with win := (ackW S.win kind id).1 } := by
  have hlim := h.lim
  obtain ⟨Mw, wb, rb, nb, fv, wv, sv, h⟩ := h
  refine ⟨wb, h.cell 0 _ rfl, fun kind id => (ack_any h.win hs kind id).mono ?_⟩
  rintro e w' ⟨v, M', F', rfl, h1, h2, _⟩
  exact ⟨v, _, F', rfl, h1.session hlim, h.winPost h2⟩
theorem ses_down {M F : Nat → Prop} {w : World} {sb : Nat} {S : Ses} (h : SesAt M F w sb S) : ∃ wb, w.cell? ⟨sb, 0, none⟩ = some (.pointer (some ⟨wb, 0, none⟩)) ∧
    Calls Try.prog 18 #[.pointer (some ⟨wb, 0, none⟩)] w fun e w' => ∃ M', e = .returned (.tuple #[]) ∧ SesPost M F M' F w w' sb { S with win := { S.win with on := false } } := by
  obtain ⟨Mw, wb, rb, nb, fv, wv, sv, h⟩ := h
  refine ⟨wb, h.cell 0 _ rfl, (down_any h.win).mono ?_⟩
  rintro e w' ⟨rfl, h1, h2⟩
  exact ⟨_, rfl, h.winPost ⟨⟨_, _, h1⟩, fun _ h => h, fun _ h => .inl h, fun _ h => h, fun _ h => .inl h, h2⟩⟩
/-- Packets that were told abide the session's calls. -/
theorem PksGro.ses {Z sb : Nat} {M F M' F' : Nat → Prop} {w w' : World} {v : Value} {ps : List Pk} {S' : Ses} (h : PksGro Z M F w v ps) (k : SesPost M F M' F' w w' sb S') : PksGro Z M' F' w' v ps :=
  h.turn k.turn (fun x hx => (k.new x hx).imp id (fun h => h.1)) (fun x hx => (k.newF x hx).imp id (fun h => h.1))
/-- The i-th packet's cells. -/
theorem PksGro.at {Z : Nat} {M F : Nat → Prop} {w : World} {v : Value} {ps : List Pk} (h : PksGro Z M F w v ps) {i : Nat} {p : Pk} (hp : ps[i]? = some p) : ∃ b o c pv, v = .slice (some ⟨b, o, none⟩) ps.length c ∧ ∀ j u, (pkCells p pv)[j]? = some u → w.cell? ⟨b, o + (i * 25 + j), none⟩ = some u := by
  have hr := h.reads
  obtain ⟨a, c, hs⟩ := h.slice
  have hlt := (List.getElem?_eq_some_iff.1 hp).1
  have hrow : ∃ b o, a = some ⟨b, o, none⟩ := by
    obtain ⟨css, _, hr⟩ := hr
    rcases RowAt.cases hr with ⟨h0, _⟩ | ⟨_, b, o, c', e, _⟩
    · omega
    · rw [hs] at e
      injection e with e1 _ _
      exact ⟨b, o, e1⟩
  obtain ⟨b, o, rfl⟩ := hrow
  rw [hs] at hr
  obtain ⟨cs, ⟨pv, rfl, _⟩, hc⟩ := hr.one eltPk hp
  exact ⟨b, o, c, pv, hs, hc⟩
/-- A number that comes free at once. -/
theorem numb_one {fl : List Fl} {l : Nat} (h : has fl (nextId l) = false) : numb fl 65535 l = nextId l := by
  rw [show (65535 : Nat) = 65534 + 1 from rfl, numb, if_neg (by rw [h]; simp)]
/-- What is below the call's own memory abides. -/
theorem SesPost.back {M F M' F' : Nat → Prop} {w0 w w' : World} {sb : Nat} {S' : Ses} (k : SesPost M F M' F' w w' sb S') (hb : Below w0.heap.size w0 w) (hM : ∀ x, M x → w0.heap.size ≤ x) : Below w0.heap.size w0 w' :=
  hb.trans ⟨k.turn.os, k.turn.tape, k.turn.output, k.turn.size, fun b hlt => k.turn.block b (by have := hb.size; omega) (fun hm => by have := hM b hm; omega)⟩
end Go.Proofs.Ytppndkbicekkjaa

/- Proved here: the contract of crierlaw13.msg. -/
namespace Go.Proofs.Ytppndkbicekkjaa
open Go Go.RowKit Go.Proofs.Gs Go.Proofs.Rt Go.Proofs.Sw Go.Proofs.Rg
open Go.Proofs.Cc (Turn Grow)

def tMsg (q : Int) : MsgV := ⟨⟨#[116]⟩, [7], q, false⟩
set_option maxHeartbeats 400000 in
theorem msg_any (q : Int) (w : World) :
    Calls Try.prog 29 #[.int .i64 q] w fun e w' => ∃ v, e = .returned v ∧ MsgVal (Fresh w w') w' v (tMsg q) ∧ Below w.heap.size w w' := by
  obtain ⟨V, hV⟩ : ∃ V, (w.alloc (.cells #[.string ⟨#[116]⟩, .slice (some ⟨w.heap.size + 1, 0, none⟩) 1 1, .int .i64 q, .bool false] 41)).alloc (.cells #[.int .u8 7] 5) = V := ⟨_, rfl⟩
  have hb0 : Below w.heap.size w V := by rw [← hV]; exact ((Below.refl _ _).alloc (Nat.le_refl _) _).alloc (by simp) _
  have hs0 : V.heap.size = w.heap.size + 2 := by rw [← hV]; simp
  have g0 : V.heap[w.heap.size]? = some (.cells #[.string ⟨#[116]⟩, .slice (some ⟨w.heap.size + 1, 0, none⟩) 1 1, .int .i64 q, .bool false] 41 (0, 0)) := by
    rw [← hV]; exact (Below.heap_alloc _ _ w.heap.size (by simp)).trans (MapKept.heap_alloc w _).1
  have g1 : V.heap[w.heap.size + 1]? = some (.cells #[.int .u8 7] 5 (0, 0)) := by
    rw [← hV]
    have := (MapKept.heap_alloc (w.alloc (.cells #[.string ⟨#[116]⟩, .slice (some ⟨w.heap.size + 1, 0, none⟩) 1 1, .int .i64 q, .bool false] 41)) (.cells #[.int .u8 7] 5)).1
    rw [World.size_alloc] at this
    exact this
  have HV := Lib.hid hV
  have HG0 := Lib.hid g0
  have HG1 := Lib.hid g1
  have HB0 := Lib.hid hb0
  have HS0 := Lib.hid hs0
  clear hV hb0 hs0 g0 g1
  go_enter Try.func29, Try.ntmps29
  go_wp2_with fail
  rw [HV.out]
  have r0 := cell4' HG0.out 0 _ rfl
  have r1 := cell4' HG0.out 1 _ rfl
  have r2 := cell4' HG0.out 2 _ rfl
  have r3 := cell4' HG0.out 3 _ rfl
  refine bodyPost_ret (v := .agg #[.string ⟨#[116]⟩, .slice (some ⟨w.heap.size + 1, 0, none⟩) 1 1, .int .i64 q, .bool false]) (by simp [results, Try.results29, go_sem, r0, r1, r2, r3]) rfl ?_
  have hs0 := HS0.out
  refine ⟨_, rfl, ⟨_, rfl, ⟨rfl, _, 1, rfl, Nat.le_refl _, by unfold maxLen; omega, .inr ⟨w.heap.size + 1, 0, rfl, by omega, fun j u hu => ?_⟩⟩, fun b e => ?_⟩, HB0.out⟩
  · have := cell4' HG1.out j u (by simpa [tMsg, payCells] using hu)
    rw [Nat.zero_add]
    exact this
  · simp [Value.ownBlock] at e
    subst e
    exact ⟨by omega, by omega⟩
end Go.Proofs.Ytppndkbicekkjaa

/- Proved here: the contracts of cmp.Compare and slices.Compare at texts, and of topic.Compare. -/
namespace Go.Proofs.Ytppndkbicekkjaa
open Go.RowKit Go.Proofs.Tp
set_option maxHeartbeats 400000 in
set_option maxRecDepth 100000 in
theorem compare_walk (A B : List ByteArray) (b1 o1 c1 b2 o2 c2 n m : Nat) (w : World) (hn : A.length = n) (hm : B.length = m) (hnc : n ≤ c1) (_hmc : m ≤ c2) (hc1 : c1 ≤ 9223372036854775807) (_hc2 : c2 ≤ 9223372036854775807)
    (hA : ∀ i x, A[i]? = some x → w.cell? ⟨b1, o1 + i, none⟩ = some (.string x)) (hB : ∀ i x, B[i]? = some x → w.cell? ⟨b2, o2 + i, none⟩ = some (.string x)) :
    Calls Try.prog 81 #[.slice (some ⟨b1, o1, none⟩) n c1, .slice (some ⟨b2, o2, none⟩) m c2] w fun e w' => e = .returned (.int .i64 (cmpL A B)) ∧ w = w' := by
  have HA := Lib.hid hA
  have HB := Lib.hid hB
  have HN := Lib.hid hn
  have HM := Lib.hid hm
  clear hA hB hn hm
  go_enter Try.func81, Try.ntmps81
  go_wp2_with fail
  go_loopg [11] n (fun g i wr => ∃ k, k + g = n ∧ i = .int .i64 (k : Nat) ∧ k ≤ m ∧ Aside (cmpL (A.drop k) (B.drop k) = cmpL A B) ∧ w = wr)
  case atStart => exact ⟨0, by omega, rfl, Nat.zero_le _, rfl, rfl⟩
  case round =>
    obtain ⟨k, hkg, rfl, hkm, HI, rfl⟩ := hrel
    have HKG := Lib.hid hkg
    cases gk with
    | zero =>
      have hkz : ¬ ((k : Int) < (n : Int)) := by omega
      have hAk : A.drop k = [] := List.drop_eq_nil_of_le (by rw [HN.out]; omega)
      by_cases hnm : n < m
      · have hnmI : (n : Int) < (m : Int) := by omega
        have hf : cmpL A B = -1 := by
          rw [← HI.out, hAk]
          obtain ⟨y, hy⟩ : ∃ y, B[k]? = some y := ⟨B[k]'(by rw [HM.out]; omega), List.getElem?_eq_getElem _⟩
          rw [drop_at hy]; rfl
        have HF := Lib.hid hf
        clear hf hAk hkg hnm
        go_wp2_with fail
        go_ret
        exact ⟨ret_int HF.out.symm, rfl⟩
      · have hnmI : ¬ ((n : Int) < (m : Int)) := by omega
        have hf : cmpL A B = 0 := by
          rw [← HI.out, hAk, show B.drop k = [] from List.drop_eq_nil_of_le (by rw [HM.out]; omega)]; rfl
        have HF := Lib.hid hf
        clear hf hAk hkg hnm
        go_wp2_with fail
        go_ret
        exact ⟨ret_int HF.out.symm, rfl⟩
    | succ g =>
      have hkz : (k : Int) < (n : Int) := by omega
      have hkn : k < n := by omega
      clear hkg
      obtain ⟨x, hx⟩ : ∃ x, A[k]? = some x := ⟨A[k]'(by rw [HN.out]; exact hkn), List.getElem?_eq_getElem _⟩
      have hcx : w.cell? ⟨b1, o1 + k, none⟩ = some (.string x) := HA.out k x hx
      have HX := Lib.hid (drop_at hx)
      clear hx
      by_cases hkm2 : k < m
      · have hkmI : ¬ ((m : Int) ≤ (k : Int)) := by omega
        obtain ⟨y, hy⟩ : ∃ y, B[k]? = some y := ⟨B[k]'(by rw [HM.out]; exact hkm2), List.getElem?_eq_getElem _⟩
        have hcy : w.cell? ⟨b2, o2 + k, none⟩ = some (.string y) := HB.out k y hy
        have HY := Lib.hid (drop_at hy)
        clear hy
        have hcb := cmpB_cases x y
        by_cases z : cmpB x y = 0
        · have hz : (cmpB x y != 0) = false := by rw [z]; rfl
          have hf : cmpL (A.drop (k + 1)) (B.drop (k + 1)) = cmpL A B := by rw [← HI.out, HX.out, HY.out]; simp [cmpL, z]
          have HF := Lib.hid hf
          clear hf z hcb
          go_wp2_with (go_at_call 98; refine (cmpStr_any _ _ _).mono ?_; rintro e w' ⟨rfl, rfl⟩)
          go_roundg g
          case measure => omega
          case rel => exact ⟨k + 1, by have := HKG.out; omega, by go_num, by omega, HF.out, rfl⟩
        · have hz : (cmpB x y != 0) = true := by rw [bne_iff_ne]; exact z
          have hf : cmpL A B = cmpB x y := by rw [← HI.out, HX.out, HY.out]; simp [cmpL, z]
          have HF := Lib.hid hf
          clear hf z hcb
          go_wp2_with (go_at_call 98; refine (cmpStr_any _ _ _).mono ?_; rintro e w' ⟨rfl, rfl⟩)
          go_ret
          exact ⟨ret_int HF.out.symm, rfl⟩
      · have hkmI : (m : Int) ≤ (k : Int) := by omega
        have hf : cmpL A B = 1 := by
          rw [← HI.out, HX.out, show B.drop k = [] from List.drop_eq_nil_of_le (by rw [HM.out]; omega)]; rfl
        have HF := Lib.hid hf
        clear hf
        go_wp2_with fail
        go_ret
        exact ⟨ret_int HF.out.symm, rfl⟩

set_option maxHeartbeats 400000 in
theorem compare_any (s t : ByteArray) (w : World) (hs : s.size ≤ 1000000000) (ht : t.size ≤ 1000000000) :
    Calls Try.prog 57 #[.string s, .string t] w fun e w' => e = .returned (.int .i64 (cmpT s t)) ∧ Below w.heap.size w w' := by
  have h1 := levels_len s hs
  have h2 := levels_len t ht
  go_enter Try.func57, Try.ntmps57
  go_wp2_with fail
  refine (levels_any s _ hs).mono ?_
  rintro e w1 ⟨v, rfl, hown, hb⟩
  obtain ⟨b1, o1, c1, rfl, q1, q2, q3, q4⟩ := (StrsAt.of_owns hown).open h1.1
  go_wp2_with fail
  refine (levels_any t _ ht).mono ?_
  rintro e w2 ⟨v2, rfl, hown2, hb2⟩
  obtain ⟨b2, o2, c2, rfl, r1, r2, r3, r4⟩ := (StrsAt.of_owns hown2).open h2.1
  go_wp2_with fail
  refine (compare_walk (levels s) (levels t) b1 o1 c1 b2 o2 c2 _ _ _ rfl rfl q1 r1 q2 r2 (fun i x hx => (hb2.cell (p := ⟨b1, o1 + i, none⟩) q3).trans (q4 i x hx)) r4).mono ?_
  rintro e w3 ⟨rfl, rfl⟩
  go_wp2_with fail
  go_ret
  exact ⟨ret_int rfl, hb.trans (hb2.mono hb.size)⟩
end Go.Proofs.Ytppndkbicekkjaa

/- Proved here: the contract of session's place (slices.BinarySearchFunc by topic.Compare). -/
namespace Go.Proofs.Ytppndkbicekkjaa
open Go Go.RowKit Go.Proofs.Gs Go.Proofs.Rt Go.Proofs.Sw Go.Proofs.Rg
open Go.Proofs.Cc (Turn Grow)

theorem askLit_any (a : AskV) (f : ByteArray) (w : World) (ha : a.flt.size ≤ 1000000000) (hf : f.size ≤ 1000000000) :
    Calls Try.prog 76 #[.agg #[.string a.flt, .int .i64 a.qos], .string f] w fun e w' => e = .returned (.int .i64 (Tp.cmpT a.flt f)) ∧ Below w.heap.size w w' := by
  obtain ⟨W0, hW0⟩ : ∃ W0, w.alloc (.cells #[.string a.flt, .int .i64 a.qos] 59) = W0 := ⟨_, rfl⟩
  have g0 : W0.heap[w.heap.size]? = some (.cells #[.string a.flt, .int .i64 a.qos] 59 (0, 0)) := by rw [← hW0]; exact (MapKept.heap_alloc w _).1
  have hb0 : Below w.heap.size w W0 := by rw [← hW0]; exact (Below.refl _ _).alloc (Nat.le_refl _) _
  have y0 := cell4' g0 0 _ rfl
  have HW0 := Lib.hid hW0
  have HB0 := Lib.hid hb0
  have HC := Lib.hid (compare_any a.flt f W0 ha hf)
  clear hW0 g0 hb0 ha hf
  go_enter Try.func76, Try.ntmps76
  go_upto_region 1 with fail
  rw [HW0.out]
  go_wp2_with fail
  refine HC.out.mono ?_
  rintro e w1 ⟨rfl, hb1⟩
  have HB1 := Lib.hid (HB0.out.trans (hb1.mono HB0.out.size))
  clear hb1
  go_wp2_with fail
  go_ret
  exact ⟨rfl, HB1.out⟩

theorem enters_ask (args : Array Value) (W : World) : (callFunc 76 args).run Try.prog W = .ok (.enter 76 args) W := by go_simp

set_option maxHeartbeats 2000000 in
set_option maxRecDepth 100000 in
theorem bsA_any {w : World} {kv : Value} {l : List AskV} {p : ByteArray} (hk : w.ownsRow 0 59 2 kv l.length (subCells l)) (hf : InOrder l) (hm : l.length ≤ 1000000) (hsz : ∀ a ∈ l, a.flt.size ≤ 1000000000) (hp : p.size ≤ 1000000000) :
    Calls Try.prog 75 #[kv, .string p, .func (.func 76) #[] #[]] w
      fun e w' => e = .returned (.tuple #[.int .i64 (spotA p l), .bool (hasA l p)]) ∧ Below w.heap.size w w' := by
  have hpl := spotA_le p l
  -- one look
  have look : ∀ i, i < l.length → ∃ a : AskV, l[i]? = some a ∧
      (∀ W, Calls Try.prog 76 #[.agg #[.string a.flt, .int .i64 a.qos], .string p] W (fun e w' => e = .returned (.int .i64 (Tp.cmpT a.flt p)) ∧ Below W.heap.size W w')) ∧ (Tp.cmpT a.flt p < 0 ↔ i < spotA p l) ∧ (i = spotA p l → (Tp.cmpT a.flt p = 0 ↔ hasA l p = true)) := by
    intro i hi
    have hg := List.getElem?_eq_getElem hi
    refine ⟨l[i], hg, fun W => askLit_any _ _ _ (hsz _ (List.getElem_mem hi)) hp, spotA_iff hf hg, fun e => ?_⟩
    exact hasA_at (by rw [← e]; exact hg)
  have HL := Lib.hid look
  have hcallf := enters_ask
  rcases RowAt.cases (RowAt.of_owns hk) with ⟨hz, _, a, cap, rfl, hcm⟩ | ⟨hpos, b0, off, cap, rfl, hnc, hcm, hb, hc⟩
  · have hl0 : l = [] := List.eq_nil_of_length_eq_zero hz
    subst hl0
    have hp0 : spotA p [] = 0 := rfl
    have hk0 : hasA [] p = false := rfl
    rw [hp0, hk0]
    clear look hk hf hpl hp0 hk0 HL hz
    go_enter Try.func75, Try.ntmps75
    go_wp2_with fail
    go_loopg [9, 10, 11] 0 (fun g i j h wr => i = .int .i64 0 ∧ j = .int .i64 0 ∧ wr = w)
    case atStart => exact ⟨rfl, rfl, rfl⟩
    case round =>
      obtain ⟨rfl, rfl, rfl⟩ := hrel
      go_wp2_with fail
      go_ret2
      exact ⟨rfl, Below.refl _ _⟩
  · obtain ⟨n, hnn⟩ : ∃ n, l.length = n := ⟨_, rfl⟩
    obtain ⟨q, hq⟩ : ∃ q, spotA p l = q := ⟨_, rfl⟩
    obtain ⟨r, hr⟩ : ∃ r, hasA l p = r := ⟨_, rfl⟩
    have look2 : ∀ i, i < n → ∃ a : AskV, w.cell? ⟨b0, off + i * 2, none⟩ = some (.string a.flt) ∧ w.cell? ⟨b0, off + i * 2 + 1, none⟩ = some (.int .i64 a.qos) ∧
      (∀ W, Calls Try.prog 76 #[.agg #[.string a.flt, .int .i64 a.qos], .string p] W (fun e w' => e = .returned (.int .i64 (Tp.cmpT a.flt p)) ∧ Below W.heap.size W w')) ∧ (Tp.cmpT a.flt p < 0 ↔ i < q) ∧ (i = q → (Tp.cmpT a.flt p = 0 ↔ r = true)) := by
      intro i hi
      obtain ⟨a, h1, h2, h3, h4⟩ := HL.out i (by omega)
      obtain ⟨g0, g1⟩ := subCells_get h1
      rw [hq] at h3
      rw [hq, hr] at h4
      exact ⟨a, hc _ _ g0, by rw [Nat.add_assoc]; exact hc _ _ g1, h2, h3, h4⟩
    have HQ0 : r = true → q < n := fun e => by rw [← hq, ← hnn]; exact hasA_lt (hr.trans e)
    rw [hq, hr]
    rw [hnn] at hpos hnc hm hpl ⊢
    rw [hq] at hpl
    have HQ := Lib.hid HQ0
    have HL2 := Lib.hid look2
    clear look look2 hk hf HL hc hq hr HQ0 hnn hsz hp
    go_enter Try.func75, Try.ntmps75
    go_wp2_with fail
    go_loopg [9, 10, 11] n (fun g i j h wr => ∃ a c : Nat, i = .int .i64 (a : Nat) ∧ j = .int .i64 (c : Nat) ∧ a ≤ q ∧ q ≤ c ∧ c ≤ n ∧ c - a ≤ g ∧ Below w.heap.size w wr)
    case atStart => exact ⟨0, n, rfl, rfl, Nat.zero_le _, hpl, Nat.le_refl _, by omega, Below.refl _ _⟩
    case round =>
      obtain ⟨a, c, rfl, rfl, h1, h2, h3, h4, hbw⟩ := hrel
      have HBW := Lib.hid hbw
      by_cases hac : a < c
      · have hd : decide ((a : Int) < (c : Int)) = true := decide_eq_true (by omega)
        have hm1 : a ≤ (a + c) / 2 := by omega
        have hm2 : (a + c) / 2 < c := by omega
        obtain ⟨x, c1, c2, hcall, hq1, -⟩ := HL2.out ((a + c) / 2) (by omega)
        have c1 := cell_below' hbw c1
        have c2 := cell_below' hbw c2
        have HC := Lib.hid hcall
        have hb1 : ((a : Int) + (c : Int)) / 2 < (n : Int) := by omega
        have hb2 : (0 : Int) ≤ ((a : Int) + (c : Int)) / 2 := by omega
        have hb3 : (((a : Int) + (c : Int)) / 2).toNat = (a + c) / 2 := by omega
        have hb4 : (a + c) / 2 < n := by omega
        generalize Tp.cmpT x.flt p = v at hq1 HC
        clear hcall hbw
        by_cases hlt : (a + c) / 2 < q
        · have hv : decide (v < 0) = true := decide_eq_true (hq1.2 hlt)
          clear hq1
          go_wp2_with fail
          refine (HC.out _).mono ?_
          rintro e w1 ⟨rfl, hb1⟩
          have HB1 := Lib.hid (HBW.out.trans (hb1.mono HBW.out.size))
          clear hb1
          go_wp2_with fail
          go_roundg (gk - 1)
          case measure => omega
          case rel => exact ⟨(a + c) / 2 + 1, c, by simp, rfl, by omega, h2, h3, by omega, HB1.out⟩
        · have hv : decide (v < 0) = false := decide_eq_false (fun e => hlt (hq1.1 e))
          clear hq1
          go_wp2_with fail
          refine (HC.out _).mono ?_
          rintro e w1 ⟨rfl, hb1⟩
          have HB1 := Lib.hid (HBW.out.trans (hb1.mono HBW.out.size))
          clear hb1
          go_wp2_with fail
          go_roundg (gk - 1)
          case measure => omega
          case rel => exact ⟨a, (a + c) / 2, rfl, by simp, h1, by omega, by omega, by omega, HB1.out⟩
      · have hd : decide ((a : Int) < (c : Int)) = false := decide_eq_false (by omega)
        have ha : a = q := by omega
        have hc : c = q := by omega
        subst ha
        subst hc
        clear h1 h2 hd hac h4 h3 hpl
        by_cases hcn : c < n
        · have hd2 : decide ((c : Int) < (n : Int)) = true := decide_eq_true (by omega)
          obtain ⟨x, c1, c2, hcall, -, hq2⟩ := HL2.out c hcn
          have c1 := cell_below' hbw c1
          have c2 := cell_below' hbw c2
          have hr := hq2 rfl
          have HC := Lib.hid hcall
          generalize Tp.cmpT x.flt p = v at hr HC
          clear hcall hq2 hbw
          cases r with
          | true =>
            have hv : (v == 0) = true := by rw [beq_iff_eq]; exact hr.2 rfl
            clear hr
            go_wp2_with fail
            refine (HC.out _).mono ?_
            rintro e w1 ⟨rfl, hb1⟩
            have HB1 := Lib.hid (HBW.out.trans (hb1.mono HBW.out.size))
            clear hb1
            go_wp2_with fail
            go_ret2
            exact ⟨rfl, HB1.out⟩
          | false =>
            have hv : (v == 0) = false := by rw [beq_eq_false_iff_ne]; intro e; exact absurd (hr.1 e) (by simp)
            clear hr
            go_wp2_with fail
            refine (HC.out _).mono ?_
            rintro e w1 ⟨rfl, hb1⟩
            have HB1 := Lib.hid (HBW.out.trans (hb1.mono HBW.out.size))
            clear hb1
            go_wp2_with fail
            go_ret2
            exact ⟨rfl, HB1.out⟩
        · have hd2 : decide ((c : Int) < (n : Int)) = false := decide_eq_false (by omega)
          obtain rfl : r = false := by
            cases r with
            | false => rfl
            | true => exact absurd (HQ.out rfl) hcn
          go_wp2_with fail
          go_ret2
          exact ⟨rfl, HBW.out⟩

theorem placeS_any {M F : Nat → Prop} {w : World} {sb : Nat} {S : Ses} (h : SesAt M F w sb S) (hg : GoodS S) (p : ByteArray) (hp : p.size ≤ 1000000000) :
    Calls Try.prog 47 #[.pointer (some ⟨sb, 0, none⟩), .string p] w fun e w' => e = .returned (.tuple #[.int .i64 (spotA p S.subs), .bool (hasA S.subs p)]) ∧ Below w.heap.size w w' := by
  obtain ⟨Mw, wb, rb, nb, fv, wv, sv, h⟩ := h
  have c4 : w.cell? ⟨sb, 4, none⟩ = some sv := h.cell 4 _ rfl
  obtain ⟨_, sa, sc, hsv, _⟩ := RowAt.of_owns h.subs
  have HC := Lib.hid (bsA_any (p := p) h.subs hg.order (by have := hg.len; have := hg.most; omega) hg.size hp)
  subst hsv
  clear h hg hp
  go_enter Try.func47, Try.ntmps47
  go_wp2_with fail
  refine HC.out.mono ?_
  rintro e w1 ⟨rfl, hb1⟩
  have HB1 := Lib.hid hb1
  clear hb1
  go_wp2_with fail
  go_ret2
  exact ⟨rfl, HB1.out⟩
end Go.Proofs.Ytppndkbicekkjaa

/- Proved here: slices.Insert of one element into a row of the call's own ([]crier/api.Ask). -/
namespace Go.Proofs.Ytppndkbicekkjaa
open Go Go.RowKit Go.Proofs.Gs Go.Lib Go.Shelf

theorem infoInsA : (Try.prog.info? 59).map (fun i => (i.zero, i.size, i.bytes)) = some (some (.agg #[.string ByteArray.empty, .int .i64 0]), 2, 24) := by kernel_rfl

set_option maxHeartbeats 4000000 in
set_option maxRecDepth 100000 in
theorem insA_any {w : World} {B : Nat} {v : Value} {n i : Nat} {xs new : List Value} {vb : Nat} (hown : w.ownsRow B 59 2 v n xs) (hB : B ≤ w.heap.size) (hi : i ≤ n) (hn : n ≤ 1000000000)
    (hvb : w.heap[vb]? = some (.cells new.toArray 59 (0, 0))) (hnl : new.length = 2) (h1v : ∀ u ∈ new, u.oneCell' = true) (hvo : v.ownBlock ≠ some vb) (h1x : ∀ u ∈ xs, u.oneCell' = true) :
    Calls Try.prog 48 #[v, .int .i64 i, .slice (some ⟨vb, 0, none⟩) 1 1] w fun e w' =>
      ∃ v', e = .returned v' ∧ w'.ownsRow B 59 2 v' (n + 1) (xs.take (i * 2) ++ new ++ xs.drop (i * 2)) ∧ w.grownBy w' v.ownBlock ∧ (v'.ownBlock = v.ownBlock ∨ v'.ownBlock = some w.heap.size) := by
  obtain ⟨i0, hi0, hz0, hz1, hz2⟩ := info_parts infoInsA
  have hsz : (Try.prog.info? 59).map (·.size) = some 2 := by rw [hi0]; simp [hz1]
  have hxl := hown.1
  have hvc : ∀ j u, new[j]? = some u → w.cell? ((⟨vb, 0, none⟩ : Addr).add j) = some u := fun j u hu => by
    rw [Addr.add_lit, Nat.zero_add]
    unfold World.cell?
    simp only [hvb]
    simpa using hu
  by_cases hin : i = n
  · subst hin
    have hend : xs.take (i * 2) ++ new ++ xs.drop (i * 2) = xs ++ new := by rw [← hxl, List.take_length, List.drop_length, List.append_nil]
    rw [hend]
    have hi63 : (i : Int) ≤ 9223372036854775807 := by omega
    have hz : ¬ ((1 : Int) = 0) := by omega
    have HC := Lib.hid hvc
    have HNL := Lib.hid (show new.length = 1 * 2 from by rw [hnl])
    have HO := Lib.hid hown
    obtain ⟨v9, w9, hr9, ho9, hg9, hx9⟩ := owns_append (P := Try.prog) i0 (.agg #[.string ByteArray.empty, .int .i64 0]) 24 Try.underlying33 hi0 hz0 hz1 hz2 rfl (by decide) hown ⟨vb, 0, none⟩ 1 1 new HNL.out hvc h1v (by unfold maxLen; omega) (by omega) hB ⟨by rw [hnl], _, 1, rfl, Nat.le_refl _, by unfold maxLen; omega, .inr ⟨vb, 0, rfl, (Array.getElem?_eq_some_iff.1 hvb).1, fun j u hu => by have := hvc j u hu; rw [Addr.add_lit, Nat.zero_add] at this; rw [Nat.zero_add]; exact this⟩⟩
    have H1 := Lib.hid ho9
    have H2 := Lib.hid hg9
    have H3 := Lib.hid hx9
    clear ho9 hg9 hx9
    have h2 := hown.2
    clear hvc hxl hvb hvo hnl h1x hend hown
    rcases h2 with ⟨rfl, rfl⟩ | ⟨g, cap, cur, rfl, _, _, hic, hcm, _⟩
    · go_enter Try.func48, Try.ntmps48
      go_wp2_with (at_builtin; refine Lib.wpList_append_run _ rfl _ _ _ _ rfl _ _ rfl rfl _ _ (hr9 _) ?_)
      go_wp2_with fail
      go_ret
      exact ⟨_, rfl, H1.out, H2.out, H3.out⟩
    · unfold maxLen at hcm
      by_cases hci : cap = i
      · subst hci
        go_enter Try.func48, Try.ntmps48
        go_wp2_with (at_builtin; refine Lib.wpList_append_run _ rfl _ _ _ _ rfl _ _ rfl rfl _ _ (hr9 _) ?_)
        go_wp2_with fail
        go_ret
        exact ⟨_, rfl, H1.out, H2.out, H3.out⟩
      · have hci2 : i < cap := by omega
        go_enter Try.func48, Try.ntmps48
        go_wp2_with (at_builtin; refine Lib.wpList_append_run _ rfl _ _ _ _ rfl _ _ rfl rfl _ _ (hr9 _) ?_)
        go_wp2_with fail
        go_ret
        exact ⟨_, rfl, H1.out, H2.out, H3.out⟩
  obtain ⟨g, cap, cur, rfl, hBg, hg, hnc, hcm, hcs, hct⟩ : ∃ g cap cur, v = .slice (some ⟨g, 0, none⟩) n cap ∧ B ≤ g ∧ w.heap[g]? = some (.cells cur 59 (0, 0)) ∧ n ≤ cap ∧ cap ≤ maxLen ∧ cur.size = cap * 2 ∧ cur.toList.take (n * 2) = xs := by
    rcases hown.2 with ⟨rfl, rfl⟩ | h
    · omega
    · exact h
  have hlt : i < n := by omega
  have hgv : g ≠ vb := fun e => hvo (by rw [e]; rfl)
  have hbw : g < w.heap.size := (Array.getElem?_eq_some_iff.1 hg).1
  have hvw : vb < w.heap.size := (Array.getElem?_eq_some_iff.1 hvb).1
  have hcl : cur.toList.length = cap * 2 := by simpa using hcs
  unfold maxLen at hcm
  have hone : ¬ ((1 : Int) = 0) := by omega
  have hine : ¬ ((i : Int) = (n : Int)) := by omega
  have hNK : n * 2 + 2 ≤ 1000000001 * 2 := by omega
  have mixed : Try.prog.follows .mixedOrders = true := by kernel_rfl
  have hik : i * 2 ≤ n * 2 := by omega
  by_cases hroom : n + 1 ≤ cap
  · -- in place
    have hroom' : ¬ ((cap : Int) < (n : Int) + 1) := by omega
    have hcapk : n * 2 + 2 ≤ cap * 2 := by omega
    have hdl : (xs.drop (i * 2)).length = n * 2 - i * 2 := by rw [List.length_drop, hxl]
    have hsrc : ∀ j u, (xs.drop (i * 2))[j]? = some u → w.drew.cell? ((⟨g, i * 2, none⟩ : Addr).add j) = some u := fun j u hu => by
      rw [Addr.add_lit]
      show w.cell? _ = _
      unfold World.cell?
      simp only [hg]
      rw [List.getElem?_drop, ← hct, List.getElem?_take] at hu
      split at hu
      · simpa using hu
      · cases hu
    have hov : ∀ lb cb, (callFunc 77 #[.slice (some ⟨vb, 0, none⟩) 1 1, .slice (some ⟨g, (i + 1) * 2, none⟩) lb cb]).run Try.prog w = .ok (.value (.bool false)) w := fun lb cb => by
      rw [run_callFunc_extern Try.func77 (by kernel_rfl) (by kernel_rfl) (by kernel_rfl) (e := Extern.SlicesOverlaps.overlaps #[33, 33] #[4]) (by kernel_rfl),
        Lib.run_overlaps_apart w 33 4 59 Try.underlying33 2 Try.sizeOf59 ⟨vb, 0, none⟩ ⟨g, (i + 1) * 2, none⟩ 1 1 lb cb (Ne.symm hgv) 59 59 new.toArray.size cur.size (by simp [World.shape?, hvb]) (by simp [World.shape?, hg]) (by omega) (by simp [World.frozen?, hvb]) (by simp [World.frozen?, hvb])]
      rfl
    obtain ⟨hsh, hshl⟩ := gs_shift (cur := cur.toList) (xs := xs) (new := new) (a := i * 2) (k := 2) (N := n * 2) hct hik hnl (by omega)
    have hl1 : (splice cur.toList (i * 2 + 2) (xs.drop (i * 2))).length = cap * 2 := by rw [length_splice _ _ _ (by rw [hdl, hcl]; omega)]; exact hcl
    obtain ⟨W1, hW1⟩ : ∃ W1, W1 = w.drew.setRow g (splice cur.toList (i * 2 + 2) (xs.drop (i * 2))).toArray := ⟨_, rfl⟩
    have hcp1 : ∀ ty dc sc, (Builtin.copy_ #[33, 33] ty #[.slice (some ⟨g, (i + 1) * 2, none⟩) (n - i) dc, .slice (some ⟨g, i * 2, none⟩) (n + 1 - i) sc]).run Try.prog w.drew = .ok (goInt ((n - i : Nat) : Int)) W1 := fun ty dc sc => by
      have h := gs_copy (P := Try.prog) w.drew 33 33 ty 59 2 Try.underlying33 hsz g (i * 2 + 2) (n - i) dc ⟨g, i * 2, none⟩ (n + 1 - i) sc cur 59 (xs.drop (i * 2)) hg (by rw [hdl]; simp only [Nat.min_def]; split <;> omega) hsrc (by rw [hdl, hcs]; omega) (fun u hu => h1x u (List.mem_of_mem_drop hu))
      have e1 : Nat.min (n + 1 - i) (n - i) = n - i := by simp only [Nat.min_def]; split <;> omega
      rw [e1, ← hW1] at h
      rw [show (i + 1) * 2 = i * 2 + 2 by omega]
      exact h
    have hg1 : W1.heap[g]? = some (.cells (splice cur.toList (i * 2 + 2) (xs.drop (i * 2))).toArray 59 (0, 0)) := by rw [hW1]; exact setRow_heap w.drew g cur _ _ _ hg
    have hv1 : W1.heap[vb]? = some (.cells new.toArray 59 (0, 0)) := by rw [hW1]; exact (setRow_other w.drew g vb _ (Ne.symm hgv)).trans hvb
    have hgr1 : w.grownBy W1 (some g) := by rw [hW1]; have h := grown_setRow w.drew g (splice cur.toList (i * 2 + 2) (xs.drop (i * 2))).toArray; exact ⟨h.os, h.tape, h.output, h.size, h.block⟩
    generalize hcur1 : splice cur.toList (i * 2 + 2) (xs.drop (i * 2)) = cur1 at *
    have hcp2 : ∀ (W : World), W.heap = W1.heap → ∀ ty dc, (Builtin.copy_ #[33, 33] ty #[.slice (some ⟨g, i * 2, none⟩) (n + 1 - i) dc, .slice (some ⟨vb, 0, none⟩) 1 1]).run Try.prog W = .ok (goInt 1) (W.setRow g (splice cur1 (i * 2) new).toArray) := fun W hW ty dc => by
      have h := gs_copy (P := Try.prog) W 33 33 ty 59 2 Try.underlying33 hsz g (i * 2) (n + 1 - i) dc ⟨vb, 0, none⟩ 1 1 cur1.toArray 59 new (by rw [hW]; exact hg1) (by rw [hnl]; simp only [Nat.min_def]; split <;> omega)
        (fun j u hu => by
          rw [Addr.add_lit, Nat.zero_add]
          unfold World.cell?
          rw [hW]
          simp only [hv1]
          simpa using hu) (by rw [hnl]; simp; omega) h1v
      have e1 : Nat.min 1 (n + 1 - i) = 1 := by simp only [Nat.min_def]; split <;> omega
      rw [e1] at h
      exact h
    have hw1 : IntKind.i64.wrap ((i : Int) + 1) = (i : Int) + 1 := by rw [IntKind.wrap_i64]; omega
    have hb1 : (0 : Int) ≤ (i : Int) + 1 := by omega
    have htn : ((i : Int) + 1).toNat = i + 1 := by omega
    have hb2 : ¬ (cap = i + 1) := by omega
    have hb3 : (i : Int) ≤ (n : Int) + 1 := by omega
    have hb4 : ¬ (cap = i) := by omega
    have HG1 := Lib.hid hg1
    have HGR := Lib.hid hgr1
    have HSH := Lib.hid hsh
    have HL := Lib.hid hshl
    have HCP2 := Lib.hid hcp2
    have HCP1 := Lib.hid hcp1
    have HCL := Lib.hid hcl
    clear hg1 hgr1 hsh hshl hcp2 hcp1 hcl hct hcs hg hvb hvc hxl hown hW1 hcur1 hl1 hsrc hdl hv1 hvo h1x h1v hnl hsz hi0 hz0 hNK hik hcapk
    go_enter Try.func48, Try.ntmps48
    go_wp2_with (simp only [hov])
    go_region_law (refine step_copy_runI rfl _ _ 33 33 rfl (.slice (some ⟨g, (i + 1) * 2, none⟩) (n - i) (cap - (i + 1))) (.slice (some ⟨g, i * 2, none⟩) (n + 1 - i) (cap - i)) (by simp [Act.eval, Act.put]) (by simp [Act.eval, Act.put]) (HCP1.out _ _ _) ?_)
    have hc2 := HCP2.out W1 rfl
    go_wp2_with fail
    go_ret
    refine ⟨_, rfl, owns_setRow HG1.out hBg (by unfold maxLen; omega) _ (by rw [HL.out, HCL.out]) hroom (by first | (rw [show (n + 1) * 2 = n * 2 + 2 by omega]; exact HSH.out) | (simp only [Nat.mul_one]; exact HSH.out)), ?_, .inl rfl⟩
    have h2 := grown_setRow W1 g (splice cur1 (i * 2) new).toArray
    exact ⟨h2.os.trans HGR.out.os, h2.tape.trans HGR.out.tape, h2.output.trans HGR.out.output, Nat.le_trans HGR.out.size h2.size, fun x hx hne => (h2.block x (Nat.lt_of_lt_of_le hx HGR.out.size) hne).trans (HGR.out.block x hx hne)⟩
  · -- a new row
    have hcn : n = cap := by omega
    subst hcn
    have hgt : (n : Int) < (n : Int) + 1 := by omega
    have hkk : (n : Int) + 1 - (i : Int) = ((n + 1 - i : Nat) : Int) := by omega
    have hikn : i + (n + 1 - i) = n + 1 := by omega
    have hbig : (n + 1) * 24 ≤ 140737488355328 := by omega
    have hcell : ∀ j u, xs[j]? = some u → w.cell? ⟨g, 0 + j, none⟩ = some u := fun j u hu => by
      rw [Nat.zero_add]
      unfold World.cell?
      simp only [hg]
      rw [← hct, List.getElem?_take] at hu
      split at hu
      · simpa using hu
      · cases hu
    have htl : (xs.take (i * 2)).length = i * 2 := by rw [List.length_take]; omega
    have hold : (Builtin.firstCells i0.size i (.slice (some ⟨g, 0, none⟩) i n)).run Try.prog w.drew = .ok (xs.take (i * 2)).toArray w.drew := by
      rw [hz1]
      exact run_firstCells_some w.drew 2 i ⟨g, 0, none⟩ i n (xs.take (i * 2)) (by rw [htl]) (fun j u hj => by
        rw [Addr.add_lit]
        rw [List.getElem?_take] at hj
        split at hj
        · exact hcell j u hj
        · cases hj)
    obtain ⟨G, hG⟩ : ∃ G, G = grownCap w (n + 1) n 59 := ⟨_, rfl⟩
    obtain ⟨ROW, hROW⟩ : ∃ ROW : Array Value, ROW = (xs.take (i * 2)).toArray ++ Builtin.zeroCells (.agg #[.string ByteArray.empty, .int .i64 0] : Value).cells (n + 1 - i) ++ Builtin.zeroCells (.agg #[.string ByteArray.empty, .int .i64 0] : Value).cells (G - (n + 1)) := ⟨_, rfl⟩
    have hrz : ∀ ty, (Builtin.append_ #[33, 3] ty #[.slice (some ⟨g, 0, none⟩) i n, .int .i64 ((n : Int) + 1 - (i : Int))]).run Try.prog w = .ok (.slice (some ⟨w.heap.size, 0, none⟩) (n + 1) G) (w.drew.alloc (.cells ROW 59)) := fun ty => by
      have h := Lib.run_append_grow_zeros w 33 3 ty 59 i0 (.agg #[.string ByteArray.empty, .int .i64 0]) .i64 .i64 Try.underlying33 Try.underlying3 hi0 hz0 (some ⟨g, 0, none⟩) i n (xs.take (i * 2)) hold (n + 1 - i) (by omega) (by omega) (by omega) (by omega) (by rw [hz2]; omega) (by rw [hz2, hikn]; exact growslice_fits (by omega) hbig)
      rw [hikn, ← hG, ← hROW] at h
      rw [hkk]
      exact h
    have hGn : n + 1 ≤ G := by rw [hG]; exact grownCap_ge w _ _ _
    have hG63 : G ≤ 9223372036854775807 := by
      have := grownCap_le_maxLen w (n + 1) n 59 (by unfold maxLen; omega)
      rw [← hG] at this
      unfold maxLen at this
      omega
    have hRl : ROW.size = G * 2 := by
      rw [hROW]
      simp [Builtin.zeroCells, Value.cells]
      omega
    have hRt : ROW.toList.take (i * 2) = xs.take (i * 2) := by
      rw [hROW, Array.toList_append, Array.toList_append, List.append_assoc]
      exact List.take_left' htl
    obtain ⟨W1, hW1⟩ : ∃ W1, W1 = w.drew.alloc (.cells ROW 59) := ⟨_, rfl⟩
    have hg1 : W1.heap[w.heap.size]? = some (.cells ROW 59 (0, 0)) := by rw [hW1]; exact (MapKept.heap_alloc w.drew _).1
    have hgr1 : w.grownBy W1 none := by
      rw [hW1]
      exact ⟨rfl, rfl, rfl, by simp, fun x hx _ => Below.heap_alloc w.drew _ x hx⟩
    have hv1 : W1.heap[vb]? = some (.cells new.toArray 59 (0, 0)) := (hgr1.block vb hvw (by simp)).trans hvb
    have hs1 : W1.heap[g]? = some (.cells cur 59 (0, 0)) := (hgr1.block g hbw (by simp)).trans hg
    obtain ⟨hsh, hshl⟩ := gs_fresh (cur := ROW.toList) (xs := xs) (new := new) (a := i * 2) (k := 2) (N := n * 2) (by rw [Array.length_toList, hRl]; omega) hRt hik hxl hnl
    obtain ⟨R1, hR1⟩ : ∃ R1, R1 = splice ROW.toList (i * 2) new := ⟨_, rfl⟩
    have hR1l : R1.length = G * 2 := by rw [hR1, length_splice _ _ _ (by rw [hnl, show ROW.toList.length = ROW.size from by simp, hRl]; omega), show ROW.toList.length = ROW.size from by simp, hRl]
    rw [← hR1] at hsh hshl
    have hcpA : ∀ ty dc, (Builtin.copy_ #[33, 33] ty #[.slice (some ⟨w.heap.size, i * 2, none⟩) (n + 1 - i) dc, .slice (some ⟨vb, 0, none⟩) 1 1]).run Try.prog W1 = .ok (goInt 1) (W1.setRow w.heap.size R1.toArray) := fun ty dc => by
      have h := gs_copy (P := Try.prog) W1 33 33 ty 59 2 Try.underlying33 hsz w.heap.size (i * 2) (n + 1 - i) dc ⟨vb, 0, none⟩ 1 1 ROW 59 new hg1 (by rw [hnl]; simp only [Nat.min_def]; split <;> omega)
        (fun j u hu => by
          rw [Addr.add_lit, Nat.zero_add]
          unfold World.cell?
          simp only [hv1]
          simpa using hu) (by rw [hnl, hRl]; omega) h1v
      have e1 : Nat.min 1 (n + 1 - i) = 1 := by simp only [Nat.min_def]; split <;> omega
      rw [e1, ← hR1] at h
      exact h
    obtain ⟨W2, hW2⟩ : ∃ W2, W2 = W1.setRow w.heap.size R1.toArray := ⟨_, rfl⟩
    rw [← hW2] at hcpA
    have hg2 : W2.heap[w.heap.size]? = some (.cells R1.toArray 59 (0, 0)) := by rw [hW2]; exact setRow_heap W1 w.heap.size ROW _ _ _ hg1
    have hs2 : W2.heap[g]? = some (.cells cur 59 (0, 0)) := by rw [hW2]; exact (setRow_other W1 w.heap.size g _ (by omega)).trans hs1
    have hgr2 : w.grownBy W2 none := by
      rw [hW2]
      exact ⟨hgr1.os, hgr1.tape, hgr1.output, by simpa [World.setRow] using hgr1.size, fun x hx hne => (setRow_other W1 w.heap.size x _ (by omega)).trans (hgr1.block x hx hne)⟩
    have hdl : (xs.drop (i * 2)).length = n * 2 - i * 2 := by rw [List.length_drop, hxl]
    have hcpB : ∀ ty dc sc, (Builtin.copy_ #[33, 33] ty #[.slice (some ⟨w.heap.size, (i + 1) * 2, none⟩) (n - i) dc, .slice (some ⟨g, i * 2, none⟩) (n - i) sc]).run Try.prog W2.drew = .ok (goInt ((n - i : Nat) : Int)) (W2.drew.setRow w.heap.size (splice R1 (i * 2 + 2) (xs.drop (i * 2))).toArray) := fun ty dc sc => by
      have h := gs_copy (P := Try.prog) W2.drew 33 33 ty 59 2 Try.underlying33 hsz w.heap.size (i * 2 + 2) (n - i) dc ⟨g, i * 2, none⟩ (n - i) sc R1.toArray 59 (xs.drop (i * 2)) hg2 (by rw [hdl]; simp only [Nat.min_def]; split <;> omega)
        (fun j u hu => by
          rw [Addr.add_lit]
          show W2.cell? _ = _
          rw [List.getElem?_drop] at hu
          have := hcell _ u hu
          rw [Nat.zero_add] at this
          rw [← this]
          exact World.cell?_of_block (w := w) (a := ⟨g, i * 2 + j, none⟩) (hgr2.block g hbw (by simp))) (by rw [hdl]; simp; omega) (fun u hu => h1x u (List.mem_of_mem_drop hu))
      have e1 : Nat.min (n - i) (n - i) = n - i := by simp only [Nat.min_def]; split <;> omega
      rw [e1] at h
      rw [show (i + 1) * 2 = i * 2 + 2 by omega]
      exact h
    have hw1 : IntKind.i64.wrap ((i : Int) + 1) = (i : Int) + 1 := by rw [IntKind.wrap_i64]; omega
    have hb1 : (0 : Int) ≤ (i : Int) + 1 := by omega
    have htn : ((i : Int) + 1).toNat = i + 1 := by omega
    have hb3 : (i : Int) ≤ (n : Int) := by omega
    have hGi : ¬ (G = i) := by omega
    have hGim : ¬ (G = i + 1) := by omega
    have hci : ¬ (n = i) := by omega
    have HG2 := Lib.hid hg2
    have HGR := Lib.hid hgr2
    have HSH := Lib.hid hsh
    have HL := Lib.hid hshl
    have HRL := Lib.hid hRl
    have HCPB := Lib.hid hcpB
    have HWB := Lib.hid hB
    rw [← hW1] at hrz
    clear hg1 hgr1 hv1 hs1 hg2 hgr2 hs2 hsh hshl hcpB hcl hct hcs hg hvb hvc hxl hown hW1 hW2 hR1 hR1l hROW hRl hRt hG hdl hvo h1x h1v hnl hsz hi0 hz0 hNK hik hold htl hcell hkk hikn hbig
    go_enter Try.func48, Try.ntmps48
    go_wp2_with (at_builtin; refine Lib.wpList_append_run _ rfl _ _ _ _ rfl _ _ rfl rfl _ _ (hrz _) ?_)
    clear hcpA
    go_region_law (refine step_copy_runI rfl _ _ 33 33 rfl (.slice (some ⟨w.heap.size, (i + 1) * 2, none⟩) (n - i) (G - (i + 1))) (.slice (some ⟨g, i * 2, none⟩) (n - i) (n - i)) (by simp [Act.eval, Act.put]) (by simp [Act.eval, Act.put]) (HCPB.out _ _ _) ?_)
    go_wp2_with fail
    go_ret
    refine ⟨_, rfl, owns_setRow HG2.out HWB.out (by unfold maxLen; omega) _ (by rw [HL.out, show ROW.toList.length = ROW.size from by simp, HRL.out]) hGn (by first | (rw [show (n + 1) * 2 = n * 2 + 2 by omega]; exact HSH.out) | (simp only [Nat.mul_one]; exact HSH.out)), ?_, .inr rfl⟩
    have h2 := grown_setRow W2.drew w.heap.size (splice R1 (i * 2 + 2) (xs.drop (i * 2))).toArray
    exact ⟨h2.os.trans HGR.out.os, h2.tape.trans HGR.out.tape, h2.output.trans HGR.out.output, Nat.le_trans HGR.out.size h2.size, fun x hx hne => (h2.block x (Nat.lt_of_lt_of_le hx HGR.out.size) (by simp; omega)).trans (HGR.out.block x hx (by simp))⟩
end Go.Proofs.Ytppndkbicekkjaa

/- Proved here: slices.Delete of one element out of a row of the call's own ([]crier/api.Ask). -/
namespace Go.Proofs.Ytppndkbicekkjaa
open Go Go.RowKit Go.Proofs.Gs Go.Lib Go.Shelf

theorem infoDelA : (Try.prog.info? 59).map (fun i => (i.zero, i.size, i.bytes)) = some (some (.agg #[.string ByteArray.empty, .int .i64 0]), 2, 24) := by kernel_rfl
theorem zeroDelA : ∀ w : World, (zeroValue 59).run Try.prog w = .ok (.agg #[.string ByteArray.empty, .int .i64 0]) w := fun w => by
  obtain ⟨i0, hi0, hz0, hz1, hz2⟩ := info_parts infoDelA
  simp [zeroValue, typeInfo, hi0, hz0]

set_option maxHeartbeats 4000000 in
set_option maxRecDepth 100000 in
theorem delA_any {w : World} {B : Nat} {v : Value} {n i : Nat} {xs : List Value} (hown : w.ownsRow B 59 2 v n xs) (hi : i < n) (hn : n ≤ 1000000000) (h1x : ∀ u ∈ xs, u.oneCell' = true) :
    Calls Try.prog 64 #[v, .int .i64 i, .int .i64 ((i : Int) + 1)] w fun e w' =>
      ∃ v', e = .returned v' ∧ w'.ownsRow B 59 2 v' (n - 1) (xs.take (i * 2) ++ xs.drop ((i + 1) * 2)) ∧ w.grownBy w' v.ownBlock ∧ v'.ownBlock = v.ownBlock := by
  obtain ⟨i0, hi0, hz0, hz1, hz2⟩ := info_parts infoDelA
  have hxl := hown.1
  obtain ⟨g, cap, cur, rfl, hBg, hg, hnc, hcm, hcs, hct⟩ : ∃ g cap cur, v = .slice (some ⟨g, 0, none⟩) n cap ∧ B ≤ g ∧ w.heap[g]? = some (.cells cur 59 (0, 0)) ∧ n ≤ cap ∧ cap ≤ maxLen ∧ cur.size = cap * 2 ∧ cur.toList.take (n * 2) = xs := by
    rcases hown.2 with ⟨rfl, rfl⟩ | h
    · omega
    · exact h
  unfold maxLen at hcm
  have mixed : Try.prog.follows .mixedOrders = true := by kernel_rfl
  have hcl : cur.toList.length = cap * 2 := by simpa using hcs
  have hdl : (xs.drop ((i + 1) * 2)).length = n * 2 - (i + 1) * 2 := by rw [List.length_drop, hxl]
  have hcell : ∀ j u, xs[j]? = some u → w.cell? ⟨g, j, none⟩ = some u := fun j u hu => by
    unfold World.cell?
    simp only [hg]
    rw [← hct, List.getElem?_take] at hu
    split at hu
    · simpa using hu
    · cases hu
  obtain ⟨A, hA, hsrc⟩ : ∃ A : Addr, (if cap = i + 1 then (⟨g, 0, none⟩ : Addr) else ⟨g, (i + 1) * 2, none⟩) = A ∧ Hid (∀ t u, (xs.drop ((i + 1) * 2))[t]? = some u → w.drew.cell? (A.add t) = some u) := by
    by_cases h : cap = i + 1
    · refine ⟨⟨g, 0, none⟩, by simp [h], fun t u hu => ?_⟩
      have h0 : (xs.drop ((i + 1) * 2)).length = 0 := by rw [hdl]; omega
      rw [List.length_eq_zero_iff.1 h0] at hu
      simp at hu
    · refine ⟨⟨g, (i + 1) * 2, none⟩, by simp [h], fun t u hu => ?_⟩
      rw [Addr.add_lit]
      rw [List.getElem?_drop] at hu
      exact hcell _ u hu
  have s1 : Hid ((xs.drop ((i + 1) * 2)).length = (n - (i + 1)) * 2) := by show _ = _; rw [hdl]; omega
  have s2 : Hid (∀ u ∈ xs.drop ((i + 1) * 2), u.oneCell' = true) := fun u hu => h1x u (List.mem_of_mem_drop hu)
  have s3 : Hid (∀ t, t < (xs.drop ((i + 1) * 2)).length → (w.drew.cell? ⟨g, 0 + i * 2 + t, none⟩).isSome = true ∧ w.drew.frozen? ⟨g, 0 + i * 2 + t, none⟩ = false) := fun t ht => by
    rw [hdl] at ht
    refine ⟨?_, by show w.frozen? _ = false; simp [World.frozen?, hg]⟩
    show (w.cell? _).isSome = true
    unfold World.cell?
    simp only [hg]
    rw [Array.getElem?_eq_getElem (by omega)]
    rfl
  obtain ⟨news, hnews⟩ : ∃ news, news = xs.drop ((i + 1) * 2) := ⟨_, rfl⟩
  have hnl : news.length = n * 2 - (i + 1) * 2 := by rw [hnews]; exact hdl
  obtain ⟨W1, hW1⟩ : ∃ W1, W1 = w.drew.setCells g (0 + i * 2) news := ⟨_, rfl⟩
  have hW1' : W1 = w.drew.setRow g (splice cur.toList (i * 2) news).toArray := by
    rw [hW1]
    have := gs_setCells Try.prog (w := w.drew) (g := g) (o := 0 + i * 2) (cur := cur) (t := 59) (vs := news) hg (by rw [hnl]; omega) (by rw [hnews]; exact s2.out)
    rw [this, Nat.zero_add]
  have hg1 : W1.heap[g]? = some (.cells (splice cur.toList (i * 2) news).toArray 59 (0, 0)) := by rw [hW1']; exact setRow_heap w.drew g cur _ _ _ hg
  have hl1 : (splice cur.toList (i * 2) news).length = cap * 2 := by rw [length_splice _ _ _ (by rw [hnl, hcl]; omega)]; exact hcl
  have hgr1 : w.grownBy W1 (some g) := by rw [hW1']; have h := grown_setRow w.drew g (splice cur.toList (i * 2) news).toArray; exact ⟨h.os, h.tape, h.output, h.size, h.block⟩
  have hcv : ∀ ty, (Builtin.clear_ #[33] ty #[.slice (some ⟨g, (i + (n - (i + 1))) * 2, none⟩) (n - (i + (n - (i + 1)))) (cap - (i + (n - (i + 1))))]).run Try.prog W1 = .ok (.tuple #[]) (W1.setCells g ((i + (n - (i + 1))) * 2) [.string ByteArray.empty, .int .i64 0]) := fun ty => by
    have e1 : n - (i + (n - (i + 1))) = 1 := by omega
    rw [e1]
    exact run_clear_one W1 _ _ ty _ [.string ByteArray.empty, .int .i64 0] Try.underlying33 zeroDelA rfl (List.all_eq_true.1 (by rfl)) g ((i + (n - (i + 1))) * 2) _
      (fun t ht => by
        unfold World.cell?
        simp only [hg1]
        rw [Array.getElem?_eq_getElem (by rw [List.size_toArray, hl1]; simp at ht; omega)]
        rfl) (fun t ht => by simp [World.frozen?, hg1])
  have hW2 := gs_setCells Try.prog (w := W1) (g := g) (o := (i + (n - (i + 1))) * 2) (t := 59) (vs := [.string ByteArray.empty, .int .i64 0]) hg1 (by rw [List.size_toArray, hl1]; simp; omega) (List.all_eq_true.1 (by rfl))
  obtain ⟨zs, hzs, hzl⟩ : ∃ zs : List Value, zs = [.string ByteArray.empty, .int .i64 0] ∧ zs.length = 2 := ⟨_, rfl, rfl⟩
  have e0 : (i + (n - (i + 1))) * 2 = (n - 1) * 2 := by rw [show i + (n - (i + 1)) = n - 1 by omega]
  rw [← hzs] at hW2 hcv
  have htk : (splice (splice cur.toList (i * 2) news) ((i + (n - (i + 1))) * 2) zs).take ((n - 1) * 2) = xs.take (i * 2) ++ news := by
    have hti : cur.toList.take (i * 2) = xs.take (i * 2) := by rw [← hct, List.take_take, Nat.min_eq_left (by omega)]
    have hlt : (xs.take (i * 2) ++ news).length = (n - 1) * 2 := by rw [List.length_append, List.length_take, hnl, hxl]; omega
    have e1 : splice cur.toList (i * 2) news = (xs.take (i * 2) ++ news) ++ cur.toList.drop (i * 2 + news.length) := by unfold splice; rw [hti, List.append_assoc]
    have e2 : (splice (splice cur.toList (i * 2) news) ((i + (n - (i + 1))) * 2) zs).take ((n - 1) * 2) = (splice cur.toList (i * 2) news).take ((n - 1) * 2) := by
      rw [e0]
      generalize splice cur.toList (i * 2) news = L at hl1 ⊢
      unfold splice
      rw [List.take_append_of_le_length (by rw [List.length_take]; omega), List.take_take, Nat.min_self]
    rw [e2, e1]
    exact List.take_left' hlt
  have hl2 : (splice (splice cur.toList (i * 2) news) ((i + (n - (i + 1))) * 2) zs).length = cap * 2 := by
    rw [length_splice _ _ _ (by rw [hl1, hzl, e0]; omega), hl1]
  rw [← hnews] at s1 s2 s3 hsrc ⊢
  have HW := Lib.hid hW1
  have HW2 := Lib.hid hW2
  have HT := Lib.hid htk
  have HL := Lib.hid hl2
  have HG := Lib.hid hg1
  have HGR := Lib.hid hgr1
  have HNL := Lib.hid hnl
  have hic : i ≤ cap := by omega
  have hjc : i + 1 ≤ cap := by omega
  have hne : ((i : Int) == (i : Int) + 1) = false := by rw [beq_eq_false_iff_ne]; omega
  have hw1 : IntKind.i64.wrap ((i : Int) + 1) = (i : Int) + 1 := by rw [IntKind.wrap_i64]; omega
  have hb1 : (0 : Int) ≤ (i : Int) + 1 := by omega
  have htn : ((i : Int) + 1).toNat = i + 1 := by omega
  have hb2 : (i : Int) + 1 ≤ (n : Int) := by omega
  have hb3 : (i : Int) + 1 ≤ (cap : Int) := by omega
  have hb4 : i + 1 ≤ n := by omega
  have hb5 : ¬ (cap = i + (n - (i + 1))) := by omega
  clear hW1 hW1' hg1 hl1 hgr1 hW2 htk hl2 hnews hdl hcell hct hcs hcl hg hown hxl h1x hnl e0 hzs hzl
  go_enter Try.func64, Try.ntmps64
  go_wp2_with fail
  go_region_law (refine step_append_room rfl (.tmp 22) (.tmp 25) 33 rfl 59 i0 2 Try.underlying33 hi0 hz1 g 0 i cap (by simp [Act.eval, Act.put]) A (n - (i + 1)) (cap - (i + 1)) news (by simp [Act.eval, Act.put]; first | exact hA | (rw [← hA]; split <;> rfl)) s1.out hsrc.out s2.out (by omega) s3.out ?_; rw [← HW.out])
  all_goals
    go_wp2_with fail
  all_goals
    go_ret
    rw [HW2.out]
    have h2 := grown_setRow W1 g (splice (splice cur.toList (i * 2) news) ((i + (n - (i + 1))) * 2) zs).toArray
    refine ⟨_, rfl, ?_, ⟨h2.os.trans HGR.out.os, h2.tape.trans HGR.out.tape, h2.output.trans HGR.out.output, Nat.le_trans HGR.out.size h2.size, fun x hx hne => (h2.block x (Nat.lt_of_lt_of_le hx HGR.out.size) hne).trans (HGR.out.block x hx hne)⟩, rfl⟩
    have ho := owns_setRow HG.out hBg (m := n - 1) (cap := cap) (k := 2) (by unfold maxLen; omega) _ HL.out (by omega) HT.out
    have e1 : i + (n - (i + 1)) = n - 1 := by omega
    rw [e1] at ho ⊢
    first
      | exact ho
      | (have hc : cap = i + 1 := by assumption
         rw [hc] at ho
         exact ho)
end Go.Proofs.Ytppndkbicekkjaa

/- Proved here: slices.Clone at []crier/api.Ask. -/
namespace Go.Proofs.Ytppndkbicekkjaa
open Go Go.RowKit Go.Proofs.Gs

theorem infoCloA : (Try.prog.info? 59).map (fun i => (i.zero, i.size, i.bytes)) = some (some (.agg #[.string ByteArray.empty, .int .i64 0]), 2, 24) := by kernel_rfl

set_option maxHeartbeats 1000000 in
set_option maxRecDepth 100000 in
theorem cloneA_any {w : World} {v : Value} {n : Nat} {xs : List Value} (h : RowAt w 2 v n xs) (hn : n ≤ 1000000001) (h1 : ∀ u ∈ xs, u.oneCell' = true) :
    Calls Try.prog 49 #[v] w fun e w' => ∃ v', e = .returned v' ∧ w'.ownsRow w.heap.size 59 2 v' n xs ∧ Below w.heap.size w w' := by
  obtain ⟨i0, hi0, hz0, hz1, hz2⟩ := info_parts infoCloA
  have hnil := fun (W : World) (a : Option Addr) (l c : Nat) => Go.run_eql_slice_nil (P := Try.prog) W 33 59 a l c Try.underlying33
  have hnew : ∀ W : World, (W.alloc (.cells #[] 59)).ownsRow W.heap.size 59 2 (.slice (some ⟨W.heap.size, 0, none⟩) 0 0) 0 [] := fun W =>
    ⟨by simp, .inr ⟨W.heap.size, 0, #[], rfl, Nat.le_refl _, (MapKept.heap_alloc W _).1, Nat.le_refl _, Nat.zero_le _, by simp, by simp⟩⟩
  have HN := Lib.hid (hnew w)
  have H1 := Lib.hid h1
  have hxl := h.1
  rcases RowAt.cases h with ⟨rfl, rfl, a, cap, rfl, hcm⟩ | ⟨hpos, b, off, cap, rfl, hnc, hcm, hb, hc⟩
  · clear hnew h1 h hxl
    cases a with
    | none =>
      go_enter Try.func49, Try.ntmps49
      go_wp2_with fail
      go_ret
      exact ⟨_, rfl, ⟨by simp, .inl ⟨rfl, rfl⟩⟩, Below.refl _ _⟩
    | some ad =>
      go_enter Try.func49, Try.ntmps49
      go_wp2_with (at_builtin; refine wpList_append_own _ rfl _ _ 33 rfl w.heap.size 59 i0 (.agg #[.string ByteArray.empty, .int .i64 0]) 2 24 Try.underlying33 hi0 hz0 hz1 hz2 rfl (by decide) _ _ _ rfl HN.out ad 0 cap [] rfl (by simp) (by simp) (by simp) ?c2 ?c3 ?c4 ?_)
      case c2 => exact Nat.zero_le _
      case c3 => omega
      case c4 => simp
      intro v' w1 hown1 hgrow _
      have H2 := Lib.hid hown1
      have H3 := Lib.hid hgrow
      clear hown1 hgrow
      go_wp2_with fail
      go_ret
      exact ⟨_, rfl, H2.out, ((Below.refl _ w).alloc (Nat.le_refl _) _).grown H3.out (by simp) (fun x hx => by simp [Value.ownBlock] at hx; omega)⟩
  · have hcb : ∀ j u, xs[j]? = some u → (w.alloc (.cells #[] 59)).cell? ((⟨b, off, none⟩ : Addr).add j) = some u := fun j u hu => by
      rw [Addr.add_lit]
      exact (World.cell?_of_block (w := w) (a := ⟨b, off + j, none⟩) (Below.heap_alloc w _ b hb)).trans (hc j u hu)
    have HC := Lib.hid hcb
    have HX := Lib.hid hxl
    have hm1 : ¬ n = 0 := by omega
    clear hnew h1 h hxl hcb hc
    go_enter Try.func49, Try.ntmps49
    go_wp2_with (at_builtin; refine wpList_append_own _ rfl _ _ 33 rfl w.heap.size 59 i0 (.agg #[.string ByteArray.empty, .int .i64 0]) 2 24 Try.underlying33 hi0 hz0 hz1 hz2 rfl (by decide) _ _ _ rfl HN.out ⟨b, off, none⟩ n cap xs rfl HX.out HC.out H1.out ?c2 ?c3 ?c4 ?_)
    case c2 => unfold maxLen; omega
    case c3 => omega
    case c4 => simp
    intro v' w1 hown1 hgrow _
    have H2 := Lib.hid hown1
    have H3 := Lib.hid hgrow
    clear hown1 hgrow
    go_wp2_with fail
    go_ret
    have h2 := H2.out
    try rw [Nat.zero_add, List.nil_append] at h2
    exact ⟨_, rfl, h2, ((Below.refl _ w).alloc (Nat.le_refl _) _).grown H3.out (by simp) (fun x hx => by simp [Value.ownBlock] at hx; omega)⟩
end Go.Proofs.Ytppndkbicekkjaa

/- Proved here: the contracts of session's Subscribe, Unsubscribe, Subs. -/
namespace Go.Proofs.Ytppndkbicekkjaa
open Go Go.RowKit Go.Proofs.Gs Go.Proofs.Rt Go.Proofs.Sw Go.Proofs.Rg
open Go.Proofs.Cc (Turn Grow)

theorem len_cut {α : Type} {l : List α} {i K : Nat} (h : l.length = K) (hi : i < K) : (l.take i ++ l.drop (i + 1)).length = K - 1 := by
  rw [List.length_append, List.length_take, List.length_drop, h]
  omega
theorem len_ins {α : Type} {l : List α} {i K : Nat} (a : α) (h : l.length = K) (hi : i ≤ K) : (l.take i ++ a :: l.drop i).length = K + 1 := by
  rw [List.length_append, List.length_take, List.length_cons, List.length_drop, h]
  omega
/-- Another row of filters. -/
theorem SesIn.setSubs {M F Mw : Nat → Prop} {w w6 V : World} {sb wb rb nb : Nat} {S : Ses} {fv wv sv v' : Value} {subs' : List AskV} (h : SesIn M F w sb S Mw wb rb nb fv wv sv) (hg : w.grownBy w6 sv.ownBlock)
    (hown : w6.ownsRow 0 59 2 v' subs'.length (subCells subs')) (ho : v'.ownBlock = sv.ownBlock ∨ ∀ b, v'.ownBlock = some b → w.heap.size ≤ b) (hV : w6.setCell ⟨sb, 4, none⟩ v' = V) :
    SesPost M F (orBlk M v') F w V sb { S with subs := subs' } := by
  have hsz6 := hg.size
  have hsz : V.heap.size = w6.heap.size := by rw [← hV]; exact size_set _ _ _
  have hoth : ∀ k, k ≠ sb → V.heap[k]? = w6.heap[k]? := fun k hk => by rw [← hV]; exact heap_setCell_other _ _ _ _ hk
  have hsv : ∀ b, M b → sv.ownBlock ≠ some b → w6.heap[b]? = w.heap[b]? := fun b hb hn => hg.block b (h.lim b hb) (fun e => hn e.symm)
  have hne : sv.ownBlock ≠ some sb := fun e => (h.ms sb e).2.1 rfl
  have hnn : sv.ownBlock ≠ some nb := fun e => (h.ms nb e).2.2 rfl
  have hrow6 := (hsv sb h.mb hne).trans h.row
  have hvb : ∀ b, v'.ownBlock = some b → (M b ∨ w.heap.size ≤ b) ∧ b ≠ sb ∧ b ≠ nb ∧ (¬ Mw b) ∧ ¬ F b := fun b e => by
    have l1 := h.lim sb h.mb
    have l2 := h.lim nb h.mn.1
    rcases ho with ho | ho
    · have e2 := ho ▸ e
      have h3 := h.ms b e2
      exact ⟨.inl h3.1, h3.2.1, h3.2.2, fun hm => (h.mw b hm).2.2.2 e2, fun hf => (h.hF b hf).2 h3.1⟩
    · have h3 := ho b e
      exact ⟨.inr h3, by omega, by omega, fun hm => by have := h.lim b (h.mw b hm).1; omega, fun hf => by have := (h.hF b hf).1; omega⟩
  have hwin : WinAt Mw F w6 wb S.win fv wv rb := h.win.keep (fun b hb hx => hg.block b hb (fun e => by
    rcases hx with hx | hx
    · exact (h.hF b hx).2 (h.ms b e.symm).1
    · exact (h.mw b hx).2.2.2 e.symm)) hsz6
  refine ⟨⟨Mw, wb, rb, nb, fv, wv, v', ?_, hwin.keep (fun b hb hx => hoth b (fun e => ?_)) (by omega), fun x hx => ⟨.inl (h.mw x hx).1, (h.mw x hx).2.1, (h.mw x hx).2.2.1, fun e => (hvb x e).2.2.2.1 hx⟩, ownsRow_keep hown (fun b e => hoth b (hvb b e).2.1), fun b e => ⟨.inr e, (hvb b e).2.1, (hvb b e).2.2.1⟩, h.noted.keep ((hoth nb h.mn.2).trans (hsv nb h.mn.1 hnn)), .inl h.mb, ⟨.inl h.mn.1, h.mn.2⟩, fun x hx => ?_, fun b hb => ⟨?_, fun hx => ?_⟩⟩, fun x hx => .inl hx, fun x hx => ?_, fun _ h => h, fun _ h => .inl h, ⟨?_, ?_, ?_, by omega, fun k hk hm => ?_⟩⟩
  · rw [← hV]
    exact heap_setCell_same _ _ 4 _ _ _ hrow6
  · rcases hx with hx | hx
    · exact (h.hF b hx).2 (e ▸ h.mb)
    · exact (h.mw b hx).2.1 e
  · rcases hx with hx | hx
    · have := h.lim x hx; omega
    · have := (ownsRow_bd hown hx).2; omega
  · have := (h.hF b hb).1; omega
  · rcases hx with hx | hx
    · exact (h.hF b hb).2 hx
    · exact (hvb b hx).2.2.2.2 hb
  · rcases hx with hx | hx
    · exact .inl hx
    · rcases (hvb x hx).1 with h3 | h3
      · exact .inl h3
      · exact .inr ⟨h3, by have := (ownsRow_bd hown hx).2; omega⟩
  · rw [← hV]; exact hg.os
  · rw [← hV]; exact hg.tape
  · rw [← hV]; exact hg.output
  · rw [hoth k (fun e => hm (e ▸ h.mb))]
    exact hg.block k hk (fun e => hm (h.ms k e.symm).1)

theorem subCells_flat (l : List AskV) : subCells l = (l.map asCells).flatten := by unfold subCells; rw [List.flatMap_def]
/-- One filter set anew, in its place. -/
theorem SesIn.putSubs {M F Mw : Nat → Prop} {w V : World} {sb wb rb nb g n c i : Nat} {S : Ses} {fv wv : Value} {a : AskV} (h : SesIn M F w sb S Mw wb rb nb fv wv (.slice (some ⟨g, 0, none⟩) n c)) (hi : i < S.subs.length) (hV : w.setCells g (i * 2) (asCells a) = V) :
    SesPost M F M F w V sb { S with subs := S.subs.set i a } := by
  obtain ⟨hxl, ho⟩ := h.subs
  rcases ho with ⟨e, _⟩ | ⟨g', cap, cur, e, _, hg, hnc, hcm, hcs, hx⟩
  · cases e
  · injection e with q1 q2 q3
    injection q1 with q1
    injection q1 with q1
    subst q1; subst q2; subst q3
    have hgm := h.ms g rfl
    have hone : ∀ u ∈ asCells a, u.oneCell' = true := List.all_eq_true.1 (by rfl)
    have hV2 := gs_setCells Try.prog (w := w) (g := g) (o := i * 2) (cur := cur) (t := 59) (vs := asCells a) hg (by simp [asCells]; omega) hone
    rw [hV] at hV2
    have hgV : V.heap[g]? = some (.cells (splice cur.toList (i * 2) (asCells a)).toArray 59 (0, 0)) := by rw [hV2]; exact setRow_heap w g cur _ _ _ hg
    have hoth : ∀ k, k ≠ g → V.heap[k]? = w.heap[k]? := fun k hk => by rw [hV2]; exact setRow_other w g k _ hk
    have hsz : V.heap.size = w.heap.size := by rw [hV2]; simp [World.setRow]
    have hlc : (splice cur.toList (i * 2) (asCells a)).length = cur.size := by rw [length_splice _ _ _ (by simp [asCells]; omega)]; simp
    have hown : V.ownsRow 0 59 2 (.slice (some ⟨g, 0, none⟩) S.subs.length c) (S.subs.set i a).length (subCells (S.subs.set i a)) := by
      refine ⟨subCells_len _, .inr ⟨g, c, _, by rw [List.length_set], Nat.zero_le _, hgV, by rw [List.length_set]; exact hnc, hcm, by rw [List.size_toArray, hlc]; exact hcs, ?_⟩⟩
      rw [List.length_set]
      have h3 := take_splice (cur := cur.toList) (off := 0) (N := S.subs.length * 2) (a := i * 2) (vs := asCells a) (xs := subCells S.subs) (by rw [List.drop_zero]; exact hx) (by simp; omega) (by simp [asCells]; omega)
      rw [Nat.zero_add, List.drop_zero] at h3
      rw [subCells_flat, List.map_set, ← flat_set (k := 2) (fun c hc => by obtain ⟨y, _, rfl⟩ := List.mem_map.1 hc; rfl) (by simpa using hi) rfl, ← subCells_flat]
      exact h3
    have hm : ∀ b, M b → b ≠ g → V.heap[b]? = w.heap[b]? := fun b hb hne => hoth b hne
    refine ⟨⟨Mw, wb, rb, nb, fv, wv, _, (hm sb h.mb (fun e => hgm.2.1 e.symm)).trans h.row, h.win.keep (fun b hb hx => hoth b (fun e => ?_)) (by omega), h.mw, hown, h.ms, h.noted.keep (hm nb h.mn.1 (fun e => hgm.2.2 e.symm)), h.mb, h.mn, fun x hx => by have := h.lim x hx; omega, fun b hb => ⟨by have := (h.hF b hb).1; omega, (h.hF b hb).2⟩⟩, fun _ h => h, fun _ h => .inl h, fun _ h => h, fun _ h => .inl h, ⟨by rw [hV2]; rfl, by rw [hV2]; rfl, by rw [hV2]; rfl, by omega, fun k _ hk => hoth k (fun e => hk (e ▸ hgm.1))⟩⟩
    rcases hx with hx | hx
    · exact (h.hF b hx).2 (e ▸ hgm.1)
    · exact (h.mw b hx).2.2.2 (by rw [e]; rfl)

theorem subs_any {M F : Nat → Prop} {w : World} {sb : Nat} {S : Ses} (h : SesAt M F w sb S) (hg : GoodS S) :
    Calls Try.prog 17 #[.pointer (some ⟨sb, 0, none⟩)] w fun e w' => ∃ v, e = .returned v ∧ w'.ownsRow w.heap.size 59 2 v S.subs.length (subCells S.subs) ∧ Below w.heap.size w w' := by
  obtain ⟨Mw, wb, rb, nb, fv, wv, sv, h⟩ := h
  have c4 : w.cell? ⟨sb, 4, none⟩ = some sv := h.cell 4 _ rfl
  have HC := Lib.hid (cloneA_any (RowAt.of_owns h.subs) (by have := hg.len; have := hg.most; omega) (subCells_one _))
  obtain ⟨_, sa, sc, hsv, _⟩ := RowAt.of_owns h.subs
  subst hsv
  clear h hg
  go_enter Try.func17, Try.ntmps17
  go_wp2_with fail
  refine HC.out.mono ?_
  rintro e w1 ⟨v1, rfl, hown1, hb1⟩
  have HO := Lib.hid hown1
  have HB1 := Lib.hid hb1
  clear hb1 hown1
  go_wp2_with fail
  go_ret
  exact ⟨_, rfl, HO.out, HB1.out⟩

set_option maxHeartbeats 1000000 in
set_option maxRecDepth 100000 in
theorem unsub_any {M F : Nat → Prop} {w : World} {sb : Nat} {S : Ses} (h : SesAt M F w sb S) (hg : GoodS S) (p : ByteArray) (hp : p.size ≤ 1000000000) :
    Calls Try.prog 30 #[.pointer (some ⟨sb, 0, none⟩), .string p] w fun e w' => ∃ M', e = .returned (.bool (unsW S p).2) ∧ SesPost M F M' F w w' sb (unsW S p).1 := by
  have HPL := Lib.hid (placeS_any h hg p hp)
  obtain ⟨Mw, wb, rb, nb, fv, wv, sv, h⟩ := h
  have HH := Lib.hid h
  have HGD := Lib.hid hg
  obtain ⟨T, hT⟩ : ∃ T, unsW S p = T := ⟨_, rfl⟩
  rw [hT]
  unfold unsW at hT
  obtain ⟨i, hi⟩ : ∃ i, spotA p S.subs = i := ⟨_, rfl⟩
  obtain ⟨K, hK⟩ : ∃ K, S.subs.length = K := ⟨_, rfl⟩
  have HK := Lib.hid hK
  cases hh : hasA S.subs p with
  | false =>
    rw [if_neg (by rw [hh]; simp)] at hT
    rw [hh, hi] at HPL
    have HT := Lib.hid hT
    clear h hg hp hT hi hh hK
    go_enter Try.func30, Try.ntmps30
    go_wp2_with fail
    refine HPL.out.mono ?_
    rintro e w1 ⟨rfl, hb1⟩
    have HB1 := Lib.hid hb1
    clear hb1
    go_wp2_with fail
    go_ret
    rw [← HT.out]
    exact ⟨M, rfl, (SesPost.refl ⟨Mw, wb, rb, nb, fv, wv, sv, HH.out⟩).more HB1.out⟩
  | true =>
    have hlt := hasA_lt hh
    rw [if_pos hh, hi] at hT
    rw [hh, hi] at HPL
    rw [hi, hK] at hlt
    have HT := Lib.hid hT
    have c4 : w.cell? ⟨sb, 4, none⟩ = some sv := h.cell 4 _ rfl
    obtain ⟨_, sa, sc, hsv, _⟩ := RowAt.of_owns h.subs
    rw [hK] at hsv
    have hm : K ≤ 1000000000 := by have := hg.len; have := hg.most; omega
    subst hsv
    clear h hg hp hT hi hh hK
    go_enter Try.func30, Try.ntmps30
    go_wp2_with fail
    refine HPL.out.mono ?_
    rintro e w1 ⟨rfl, hb1⟩
    have c4 := cell_below' hb1 c4
    have HB1 := Lib.hid hb1
    have h1 := HH.out.below hb1
    have ho1 := h1.subs
    rw [HK.out] at ho1
    have HDEL := Lib.hid (delA_any ho1 hlt hm (subCells_one _))
    have HH1 := Lib.hid h1
    clear hb1 h1 ho1
    go_wp2_with fail
    refine HDEL.out.mono ?_
    rintro e w2 ⟨v2, rfl, hown2, hg2, ho2⟩
    have hrow2 := (hg2.block sb (HH1.out.lim _ HH1.out.mb) (fun e => (HH1.out.ms sb e.symm).2.1 rfl)).trans HH1.out.row
    have f4 := frozen_of_row w2 sb 4 _ _ hrow2
    have c4' := cell4' hrow2 4 _ rfl
    obtain ⟨_, a2, c2, hv2, _⟩ := RowAt.of_owns hown2
    subst hv2
    have HO2 := Lib.hid hown2
    have HG2 := Lib.hid hg2
    have HX2 := Lib.hid ho2
    clear hown2 hg2 ho2 hrow2 c4
    go_wp2_with fail
    obtain ⟨V, hV⟩ : ∃ V, w2.setCell ⟨sb, 4, none⟩ (.slice a2 (K - 1) c2) = V := ⟨_, rfl⟩
    (try rw [hV])
    have hown3 := HO2.out
    rw [subCells_take, subCells_drop] at hown3
    have hlen : (S.subs.take i ++ S.subs.drop (i + 1)).length = K - 1 := len_cut HK.out hlt
    have hpost := (SesPost.refl (F := F) ⟨Mw, wb, rb, nb, fv, wv, _, HH.out⟩).more HB1.out |>.trans (HH1.out.setSubs (subs' := S.subs.take i ++ S.subs.drop (i + 1)) (V := V) HG2.out (by rw [hlen]; unfold subCells at hown3 ⊢; rw [List.flatMap_append]; exact hown3) (.inl HX2.out) hV)
    have HPOST := Lib.hid hpost
    clear hpost hlen hown3 hV f4 c4'
    go_ret
    rw [← HT.out]
    exact ⟨_, rfl, HPOST.out⟩
end Go.Proofs.Ytppndkbicekkjaa

/- Proved here: the contract of session's Subscribe. -/
namespace Go.Proofs.Ytppndkbicekkjaa
open Go Go.RowKit Go.Proofs.Gs Go.Proofs.Rt Go.Proofs.Sw Go.Proofs.Rg
open Go.Proofs.Cc (Turn Grow)

set_option maxHeartbeats 4000000 in
set_option maxRecDepth 100000 in
theorem sub_any {M F : Nat → Prop} {w : World} {sb : Nat} {S : Ses} (h : SesAt M F w sb S) (hg : GoodS S) (a : AskV) (hp : a.flt.size ≤ 1000000000) :
    Calls Try.prog 15 #[.pointer (some ⟨sb, 0, none⟩), .agg #[.string a.flt, .int .i64 a.qos]] w fun e w' => ∃ M', e = .returned (.int .i64 (subW S a).2) ∧ SesPost M F M' F w w' sb (subW S a).1 := by
  obtain ⟨W0, hW0⟩ : ∃ W0, w.alloc (.cells #[.string a.flt, .int .i64 a.qos] 59) = W0 := ⟨_, rfl⟩
  have g0 : W0.heap[w.heap.size]? = some (.cells #[.string a.flt, .int .i64 a.qos] 59 (0, 0)) := by rw [← hW0]; exact (MapKept.heap_alloc w _).1
  have hb0 : Below w.heap.size w W0 := by rw [← hW0]; exact (Below.refl _ _).alloc (Nat.le_refl _) _
  have y0 := cell4' g0 0 _ rfl
  have y1 := cell4' g0 1 _ rfl
  have HCF := Lib.hid (fun W => checkFilter_any a.flt W hp)
  have HQ := Lib.hid (fun W => isQ_any a.qos W)
  have HPL := Lib.hid (fun (X : World) (hb : Below W0.heap.size W0 X) => placeS_any ((h.below hb0).below hb) hg a.flt hp)
  obtain ⟨Mw, wb, rb, nb, fv, wv, sv, h⟩ := h
  have HH := Lib.hid h
  have HGD := Lib.hid hg
  have HB0 := Lib.hid hb0
  have HW0 := Lib.hid hW0
  obtain ⟨T, hT⟩ : ∃ T, subW S a = T := ⟨_, rfl⟩
  rw [hT]
  unfold subW at hT
  obtain ⟨k, hk⟩ : ∃ k, Tp.chkF a.flt = k := ⟨_, rfl⟩
  rw [hk] at HCF
  cases hr : right a with
  | false =>
    rw [if_pos hr] at hT
    have HT := Lib.hid hT
    unfold right at hr
    rw [hk] at hr
    by_cases hk0 : k = 0
    · have hkk : (k != 0) = false := by rw [hk0]; rfl
      have hq : isQ a.qos = false := by simpa [hk0] using hr
      rw [hq] at HQ
      clear h hg hp hT hb0 hW0 hr hk hk0 hq g0 HPL
      go_enter Try.func15, Try.ntmps15
      go_upto_region 1 with fail
      rw [HW0.out]
      go_wp2_with fail
      refine (HCF.out _).mono ?_
      rintro e w1 ⟨rfl, hb1⟩
      have y1 := cell_below' hb1 y1
      have HB1 := Lib.hid (HB0.out.trans (hb1.mono HB0.out.size))
      clear hb1
      go_wp2_with fail
      refine (HQ.out _).mono ?_
      rintro e w2 ⟨rfl, rfl⟩
      go_wp2_with fail
      go_ret
      rw [← HT.out]
      exact ⟨M, rfl, (SesPost.refl ⟨Mw, wb, rb, nb, fv, wv, sv, HH.out⟩).more HB1.out⟩
    · have hkk : (k != 0) = true := by rw [bne_iff_ne]; exact hk0
      clear h hg hp hT hb0 hW0 hr hk hk0 g0 HPL
      go_enter Try.func15, Try.ntmps15
      go_upto_region 1 with fail
      rw [HW0.out]
      go_wp2_with fail
      refine (HCF.out _).mono ?_
      rintro e w1 ⟨rfl, hb1⟩
      have HB1 := Lib.hid (HB0.out.trans (hb1.mono HB0.out.size))
      clear hb1
      go_wp2_with fail
      go_ret
      rw [← HT.out]
      exact ⟨M, rfl, (SesPost.refl ⟨Mw, wb, rb, nb, fv, wv, sv, HH.out⟩).more HB1.out⟩
  | true =>
    rw [if_neg (by rw [hr]; simp)] at hT
    unfold right at hr
    rw [hk, Bool.and_eq_true, decide_eq_true_eq] at hr
    have hkk : (k != 0) = false := by rw [hr.1]; rfl
    rw [hr.2] at HQ
    obtain ⟨i, hi⟩ : ∃ i, spotA a.flt S.subs = i := ⟨_, rfl⟩
    obtain ⟨K, hK⟩ : ∃ K, S.subs.length = K := ⟨_, rfl⟩
    obtain ⟨MO, hMO⟩ : ∃ MO, S.most = MO := ⟨_, rfl⟩
    rw [hi] at hT HPL
    have HK := Lib.hid hK
    have HMO := Lib.hid hMO
    obtain ⟨_, sa, sc, hsv, hsn, hscm, _⟩ := RowAt.of_owns h.subs
    have c4 : w.cell? ⟨sb, 4, none⟩ = some sv := h.cell 4 _ rfl
    have c3 : w.cell? ⟨sb, 3, none⟩ = some (.int .i64 (S.most : Nat)) := h.cell 3 _ rfl
    rw [hK] at hsv
    rw [hMO] at c3
    subst hsv
    have hm : K ≤ 65536 := by rw [← hK]; have := hg.len; have := hg.most; omega
    have hm2 : MO ≤ 65536 := by rw [← hMO]; exact hg.most
    have hik : i ≤ K := by rw [← hi, ← hK]; exact spotA_le _ _
    have c4 := cell_below' hb0 c4
    have c3 := cell_below' hb0 c3
    have HGZ := Lib.hid (Array.getElem?_eq_some_iff.1 g0).1
    cases hh : hasA S.subs a.flt with
    | true =>
      have hlt := hasA_lt hh
      rw [if_pos hh] at hT
      rw [hi, hK] at hlt
      rw [hh] at HPL
      have HT := Lib.hid hT
      obtain ⟨g, rfl⟩ : ∃ g, sa = some ⟨g, 0, none⟩ := by
        rcases h.subs.2 with ⟨e, _⟩ | ⟨g, cap, cur, e, _⟩
        · injection e with e1 e2 e3; omega
        · injection e with e1 e2 e3; exact ⟨g, e1⟩
      clear h hg hp hT hb0 hW0 hr hk hi hK hMO hh g0
      go_enter Try.func15, Try.ntmps15
      go_upto_region 1 with fail
      rw [HW0.out]
      go_wp2_with fail
      refine (HCF.out _).mono ?_
      rintro e w1 ⟨rfl, hb1⟩
      have y0 := cell_below' hb1 y0
      have y1 := cell_below' hb1 y1
      have c4 := cell_below' hb1 c4
      have HB1 := Lib.hid hb1
      clear hb1
      go_wp2_with fail
      refine (HQ.out _).mono ?_
      rintro e w2 ⟨rfl, rfl⟩
      go_wp2_with fail
      refine (HPL.out _ HB1.out).mono ?_
      rintro e w3 ⟨rfl, hb3⟩
      have y0 := cell_below' hb3 y0
      have y1 := cell_below' hb3 y1
      have c4 := cell_below' hb3 c4
      have HB3 := Lib.hid (HB0.out.trans ((HB1.out.trans (hb3.mono HB1.out.size)).mono HB0.out.size))
      clear hb3
      have h3 := HH.out.below HB3.out
      obtain ⟨a0, ha0⟩ : ∃ a0, S.subs[i]? = some a0 := ⟨_, List.getElem?_eq_getElem (by rw [HK.out]; exact hlt)⟩
      obtain ⟨cur, hcur, e0, e1⟩ : ∃ cur, w3.heap[g]? = some (.cells cur 59 (0, 0)) ∧ w3.cell? ⟨g, i * 2, none⟩ = some (.string a0.flt) ∧ w3.cell? ⟨g, i * 2 + 1, none⟩ = some (.int .i64 a0.qos) := by
        obtain ⟨g1, g2⟩ := subCells_get ha0
        have hrow := RowAt.of_owns h3.subs
        rcases RowAt.cases hrow with ⟨h0, _⟩ | ⟨_, b', o', c', e', _, _, _, hc'⟩
        · have := HK.out; omega
        · rcases h3.subs.2 with ⟨e, _⟩ | ⟨g', cap, cur, e, _, hg', _⟩
          · cases e
          · injection e with q1 _ _
            injection q1 with q1
            injection q1 with q1
            injection e' with p1 _ _
            injection p1 with p1
            injection p1 with p1 p2
            subst q1; subst p1; subst p2
            have r1 := hc' _ _ g1
            have r2 := hc' _ _ g2
            rw [Nat.zero_add] at r1 r2
            exact ⟨cur, hg', r1, r2⟩
      have ff := fun j => frozen_of_row w3 g j _ _ hcur
      have hgne : g < w.heap.size := HH.out.lim g (HH.out.ms g rfl).1
      have HPUT := Lib.hid (fun V hV => (HH.out.below HB3.out.drew).putSubs (V := V) (a := a) (by rw [HK.out]; exact hlt) hV)
      have HGN := Lib.hid hgne
      clear h3 ha0 hcur hgne
      go_upto_region 6 with fail
      go_region
      all_goals
        obtain ⟨V, hV⟩ : ∃ V, ((w3.setCell ⟨g, i * 2, none⟩ (.string a.flt)).setCell ⟨g, i * 2 + 1, none⟩ (.int .i64 a.qos)).drew = V := ⟨_, rfl⟩
        rw [hV]
        have hp := HPUT.out V (by rw [← hV]; rfl)
        have z1 : V.cell? ⟨w.heap.size, 1, none⟩ = some (.int .i64 a.qos) := by
          have hne : w.heap.size ≠ g := by have := HGN.out; omega
          rw [← hV]
          exact (World.cell?_of_block (w := w3) (a := ⟨w.heap.size, 1, none⟩) (show ((w3.setCell ⟨g, i * 2, none⟩ (.string a.flt)).setCell ⟨g, i * 2 + 1, none⟩ (.int .i64 a.qos)).heap[w.heap.size]? = _ from (heap_setCell_other _ _ _ _ hne).trans (heap_setCell_other _ _ _ _ hne))).trans y1
        have hpost := (SesPost.refl (F := F) ⟨Mw, wb, rb, nb, fv, wv, _, HH.out⟩).more HB3.out.drew |>.trans hp
        have HPOST := Lib.hid hpost
        clear hV hp hpost y0 y1 c4 e0 e1 ff c3
        go_wp2_with fail
        go_ret
        rw [← HT.out]
        exact ⟨_, rfl, HPOST.out⟩
    | false =>
      rw [if_neg (by rw [hh]; simp)] at hT
      rw [hh] at HPL
      by_cases hlt : K < MO
      case neg =>
        rw [if_neg (by rw [hK, hMO]; exact hlt)] at hT
        have HT := Lib.hid hT
        have hd : decide (K < MO) = false := decide_eq_false hlt
        clear h hg hp hT hb0 hW0 hr hk hi hK hMO hh g0 hlt
        go_enter Try.func15, Try.ntmps15
        go_upto_region 1 with fail
        rw [HW0.out]
        go_wp2_with fail
        refine (HCF.out _).mono ?_
        rintro e w1 ⟨rfl, hb1⟩
        have y0 := cell_below' hb1 y0
        have y1 := cell_below' hb1 y1
        have c4 := cell_below' hb1 c4
        have c3 := cell_below' hb1 c3
        have HB1 := Lib.hid hb1
        clear hb1
        go_wp2_with fail
        refine (HQ.out _).mono ?_
        rintro e w2 ⟨rfl, rfl⟩
        go_wp2_with fail
        refine (HPL.out _ HB1.out).mono ?_
        rintro e w3 ⟨rfl, hb3⟩
        have c4 := cell_below' hb3 c4
        have c3 := cell_below' hb3 c3
        have HB3 := Lib.hid (HB0.out.trans ((HB1.out.trans (hb3.mono HB1.out.size)).mono HB0.out.size))
        clear hb3
        go_upto_region 7 with fail
        go_region
        all_goals
          go_wp2_with fail
          go_ret
          rw [← HT.out]
          exact ⟨M, rfl, (SesPost.refl ⟨Mw, wb, rb, nb, fv, wv, _, HH.out⟩).more HB3.out.drew⟩
      case pos =>
        rw [if_pos (by rw [hK, hMO]; exact hlt)] at hT
        have HT := Lib.hid hT
        have hd : decide (K < MO) = true := decide_eq_true hlt
        clear h hg hp hT hb0 hW0 hr hk hi hK hMO hh g0 hlt
        go_enter Try.func15, Try.ntmps15
        go_upto_region 1 with fail
        rw [HW0.out]
        go_wp2_with fail
        refine (HCF.out _).mono ?_
        rintro e w1 ⟨rfl, hb1⟩
        have y0 := cell_below' hb1 y0
        have y1 := cell_below' hb1 y1
        have c4 := cell_below' hb1 c4
        have c3 := cell_below' hb1 c3
        have HB1 := Lib.hid hb1
        clear hb1
        go_wp2_with fail
        refine (HQ.out _).mono ?_
        rintro e w2 ⟨rfl, rfl⟩
        go_wp2_with fail
        refine (HPL.out _ HB1.out).mono ?_
        rintro e w3 ⟨rfl, hb3⟩
        have y0 := cell_below' hb3 y0
        have y1 := cell_below' hb3 y1
        have c4 := cell_below' hb3 c4
        have c3 := cell_below' hb3 c3
        have HB3 := Lib.hid (HB0.out.trans ((HB1.out.trans (hb3.mono HB1.out.size)).mono HB0.out.size))
        clear hb3
        go_upto_region 7 with fail
        go_region
        go_upto_region 8 with fail
        clear c3
        have h3 := HH.out.below HB3.out
        have hY : ∀ Y : World, Y.os = w.os → Y.tape = w.tape → Y.output = w.output → Y.heap = (w3.alloc (.cells #[.string a.flt, .int .i64 a.qos] 59)).heap → Below w.heap.size w Y ∧ Y.heap.size = w3.heap.size + 1 ∧ Y.heap[w3.heap.size]? = some (.cells (asCells a).toArray 59 (0, 0)) := by
          intro Y os tp ou hY
          have hb : Below w3.heap.size w3 (w3.alloc (.cells #[.string a.flt, .int .i64 a.qos] 59)) := (Below.refl _ _).alloc (Nat.le_refl _) _
          have hs := HB3.out.size
          have hsz : Y.heap.size = w3.heap.size + 1 := by rw [hY]; simp
          exact ⟨⟨os, tp, ou, by omega, fun k hk => by rw [hY]; exact (hb.block k (by omega)).trans (HB3.out.block k hk)⟩, hsz, by rw [hY]; exact (MapKept.heap_alloc w3 _).1⟩
        have HOS := Lib.hid (And.intro HB3.out.os (And.intro HB3.out.tape HB3.out.output))
        have HINS := Lib.hid (fun (Y : World) (hh : Y.heap = (w3.alloc (.cells #[.string a.flt, .int .i64 a.qos] 59)).heap) => insA_any (w := Y) (B := 0) (v := .slice sa K sc) (n := K) (i := i) (xs := subCells S.subs) (new := asCells a) (vb := w3.heap.size) (by
          have h4 := (ownsRow_keep (w' := Y) h3.subs (fun b e => by rw [hh]; exact Below.heap_alloc w3 _ b (ownsRow_bd h3.subs e).2))
          rw [HK.out] at h4
          exact h4) (Nat.zero_le _) hik (by omega) (by rw [hh]; exact (MapKept.heap_alloc w3 _).1) rfl (List.all_eq_true.1 (by rfl)) (fun e => by have := h3.lim _ (h3.ms _ e).1; omega) (subCells_one _))
        have HY := Lib.hid hY
        have c4A := cell_below' ((Below.refl _ w3).alloc (Nat.le_refl _) (.cells #[.string a.flt, .int .i64 a.qos] 59)) c4
        have y0A := cell_below' ((Below.refl _ w3).alloc (Nat.le_refl _) (.cells #[.string a.flt, .int .i64 a.qos] 59)) y0
        have y1A := cell_below' ((Below.refl _ w3).alloc (Nat.le_refl _) (.cells #[.string a.flt, .int .i64 a.qos] 59)) y1
        clear h3 hY
        go_region_law (go_simp; go_at_call 48; refine (HINS.out _ (by rfl)).mono ?_; rintro e w5 ⟨v5, rfl, hown5, hg5, ho5⟩; obtain ⟨_, a5, c5, hv5, _⟩ := RowAt.of_owns hown5; subst hv5; have hbY := (HY.out ((w3.alloc (.cells #[.string a.flt, .int .i64 a.qos] 59)).drew.drew) HOS.out.1 HOS.out.2.1 HOS.out.2.2 (by rfl)).1; have hY5 := HH.out.below hbY; have hrow5 := (hg5.block sb (hY5.lim _ hY5.mb) (fun e => (hY5.ms sb e.symm).2.1 rfl)).trans hY5.row; have f4 := frozen_of_row w5 sb 4 _ _ hrow5; have c4' := cell4' hrow5 4 _ rfl; have HO5 := Lib.hid hown5; have HG5 := Lib.hid hg5; have HX5 := Lib.hid ho5; have HBY := Lib.hid hbY; clear hown5 hg5 ho5 hrow5 hY5 hbY)
        all_goals
          obtain ⟨V, hV⟩ : ∃ V, w5.setCell ⟨sb, 4, none⟩ (.slice a5 (K + 1) c5) = V := ⟨_, rfl⟩
          rw [hV]
          have hY5 := HH.out.below HBY.out
          have hown3 := HO5.out
          rw [subCells_take, subCells_drop] at hown3
          have hlen : (S.subs.take i ++ a :: S.subs.drop i).length = K + 1 := len_ins a HK.out hik
          have hsub := hY5.setSubs (subs' := S.subs.take i ++ a :: S.subs.drop i) (V := V) HG5.out (by
            rw [hlen]
            unfold subCells at hown3 ⊢
            rw [List.flatMap_append, List.flatMap_cons]
            rw [List.append_assoc] at hown3
            exact hown3) (HX5.out.imp id (fun e b hb => by rw [e] at hb; injection hb with hb; exact Nat.le_of_eq hb)) hV
          have hpost := (SesPost.refl (F := F) ⟨Mw, wb, rb, nb, fv, wv, _, HH.out⟩).more HBY.out |>.trans hsub
          have z1 : V.cell? ⟨w.heap.size, 1, none⟩ = some (.int .i64 a.qos) := by
            have hne : w.heap.size ≠ sb := by have := HH.out.lim _ HH.out.mb; omega
            have hlt5 : w.heap.size < ((w3.alloc (.cells #[.string a.flt, .int .i64 a.qos] 59)).drew.drew).heap.size := World.block_lt_of_cell? _ (⟨w.heap.size, 1, none⟩ : Addr) (show _ = some (Value.int .i64 a.qos) from y1A)
            rw [← hV]
            exact (World.cell?_of_block (w := (w3.alloc (.cells #[.string a.flt, .int .i64 a.qos] 59)).drew.drew) (a := ⟨w.heap.size, 1, none⟩) ((heap_setCell_other _ _ _ _ hne).trans (HG5.out.block _ hlt5 (fun e => absurd (HH.out.lim _ (HH.out.ms _ e.symm).1) (Nat.lt_irrefl _))))).trans y1A
          have HPOST := Lib.hid hpost
          clear hY5 hown3 hlen hsub hpost hV y0 y1 c4 c4A y0A y1A f4 c4'
          go_wp2_with fail
          go_ret
          rw [← HT.out]
          exact ⟨_, rfl, HPOST.out⟩
end Go.Proofs.Ytppndkbicekkjaa
