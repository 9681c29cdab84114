/- Proved here: the contracts of window's place (IndexFunc with its literal) and number. -/
import Derived.Test.YtppndkbicekkjaaPkFA
import Derived.BigRegion
import Derived.Lib.AppendZeros
import Derived.StillTail
import Derived.OrdersHeld
import Derived.Deep.QuietTactic
import Derived.BigQuiet
import Derived.Lib.QuietBelow
import Derived.Deep.RegionLaw
import Derived.Laws.Rows
import Derived.Laws.Tables
import Derived.RegionTactic
namespace Go.Proofs.Ytppndkbicekkjaa
open Go Go.RowKit Go.Proofs.Gs Go.Proofs.Rt Go.Proofs.Sw
open Go.Proofs.Cc (Turn Grow)

/-- The literal: is it that number? -/
theorem placeLit_any {w : World} {ib : Nat} {id n : Nat} {f : Fl} {pv : Value} (hi : w.cell? ⟨ib, 0, none⟩ = some (.int .i64 (id : Nat))) (hp : ∃ a c, pv = .slice a n c) :
    Calls Try.prog 69 #[.agg #[.int .i64 f.id, .string f.msg.topic, pv, .int .i64 f.msg.qos, .bool f.msg.ret, .bool f.rel], .pointer (some ⟨ib, 0, none⟩)] w fun e w' => e = .returned (.bool (decide (f.id = id))) ∧ Below w.heap.size w w' := by
  obtain ⟨a, c, rfl⟩ := hp
  have hlt := World.block_lt_of_cell? w _ hi
  obtain ⟨W0, hW0⟩ : ∃ W0, w.alloc (.cells #[.int .i64 f.id, .string f.msg.topic, .slice a n c, .int .i64 f.msg.qos, .bool f.msg.ret, .bool f.rel] 86) = W0 := ⟨_, rfl⟩
  have g0 : W0.heap[w.heap.size]? = some (.cells #[.int .i64 f.id, .string f.msg.topic, .slice a n c, .int .i64 f.msg.qos, .bool f.msg.ret, .bool f.rel] 86 (0, 0)) := by rw [← hW0]; exact (MapKept.heap_alloc w _).1
  have hb0 : Below w.heap.size w W0 := by rw [← hW0]; exact (Below.refl _ _).alloc (Nat.le_refl _) _
  have y0 := cell4' g0 0 _ rfl
  have y1 := cell_below' hb0 hi
  obtain ⟨q, hq⟩ : ∃ q, decide (f.id = id) = q := ⟨_, rfl⟩
  have hqi : ((f.id : Int) == (id : Int)) = q := by rw [← hq]; by_cases h : f.id = id <;> simp [h]; omega
  have HQ := Lib.hid hq
  rw [hq]
  have HW0 := Lib.hid hW0
  clear hq g0 hi hlt hW0
  go_enter Try.func69, Try.ntmps69
  go_upto_region 1 with fail
  rw [HW0.out]
  go_wp2_with fail
  go_ret
  exact ⟨rfl, hb0⟩

theorem enters_lit (args : Array Value) (W : World) : (callFunc 69 args).run Try.prog W = .ok (.enter 69 args) W := by go_simp

set_option maxHeartbeats 1000000 in
set_option maxRecDepth 100000 in
theorem indexF_any {F : Nat → Prop} {w : World} {ib id : Nat} {v : Value} {fl : List Fl} (h : Reads 6 ElFl F w v fl) (hi : w.cell? ⟨ib, 0, none⟩ = some (.int .i64 (id : Nat))) (hlen : fl.length ≤ 1000000) :
    Calls Try.prog 68 #[v, .func (.func 69) #[] #[.pointer (some ⟨ib, 0, none⟩)]] w fun e w' => e = .returned (.int .i64 (if has fl id = true then (spotF fl id : Nat) else -1)) ∧ Below w.heap.size w w' := by
  obtain ⟨a, cap, rfl, hcap, hmax⟩ := h.slice
  obtain ⟨K, hK⟩ : ∃ K, fl.length = K := ⟨_, rfl⟩
  obtain ⟨P, hP⟩ : ∃ P, spotF fl id = P := ⟨_, rfl⟩
  have hPK : P ≤ K := by
    cases hh : has fl id with
    | true => have := spotF_lt hh; omega
    | false => have := spotF_end hh; omega
  have HK := Lib.hid hK
  have HP := Lib.hid hP
  have HR := Lib.hid h
  have HI := Lib.hid hi
  have henter := enters_lit
  rw [hK] at hcap hlen HR ⊢
  rw [hP]
  obtain ⟨r, hr⟩ : ∃ r : Int, (if has fl id = true then ((P : Nat) : Int) else -1) = r := ⟨_, rfl⟩
  rw [hr]
  have RES := Lib.hid hr
  clear h hi hK hP hr
  go_enter Try.func68, Try.ntmps68
  go_wp2_with fail
  go_loopg [8] P (fun g i8 wr => ∃ i : Nat, i + g = P ∧ i8 = .int .i64 (i : Nat) ∧ Below w.heap.size w wr)
  case atStart => exact ⟨0, by omega, rfl, Below.refl _ _⟩
  case round =>
    obtain ⟨i, hig, rfl, hbw⟩ := hrel
    have HB := Lib.hid hbw
    have hi := cell_below' hbw HI.out
    clear hbw
    by_cases hiK : i = K
    · have hd : decide ((i : Int) < (K : Int)) = false := decide_eq_false (by omega)
      have hno : has fl id = false := by
        cases hh : has fl id with
        | false => rfl
        | true => have := spotF_lt hh; have := HP.out; have := HK.out; omega
      have HNO := Lib.hid hno
      clear hno
      go_wp2_with fail
      go_ret
      exact ⟨by rw [← RES.out, HNO.out]; rfl, HB.out⟩
    · have hd : decide ((i : Int) < (K : Int)) = true := decide_eq_true (by omega)
      have hq1 : (0 : Int) ≤ (i : Int) := by omega
      have hq2 : (i : Int) < (K : Int) := by omega
      obtain ⟨f, hf⟩ : ∃ f, fl[i]? = some f := ⟨_, List.getElem?_eq_getElem (by rw [HK.out]; omega)⟩
      have hrow := HR.out.below eltFl HB.out
      obtain ⟨fb, fo, rfl⟩ : ∃ fb fo, a = some ⟨fb, fo, none⟩ := by
        obtain ⟨css, _, hr⟩ := HR.out
        rcases RowAt.cases hr with ⟨h0, _⟩ | ⟨_, b, o, c, e, _⟩
        · have := HK.out; omega
        · injection e with e1 e2 e3
          exact ⟨b, o, e1⟩
      obtain ⟨cs, ⟨pv, rfl, hp⟩, hc⟩ := hrow.one eltFl hf
      obtain ⟨pa, pc, rfl⟩ := pay_slice hp
      have k0 := hc 0 _ rfl
      have k1 := hc 1 _ rfl
      have k2 := hc 2 _ rfl
      have k3 := hc 3 _ rfl
      have k4 := hc 4 _ rfl
      have k5 := hc 5 _ rfl
      rw [Nat.add_zero] at k0
      rw [← Nat.add_assoc] at k1 k2 k3 k4 k5
      have HLIT := Lib.hid (placeLit_any (f := f) (n := f.msg.pay.length) (pv := .slice pa f.msg.pay.length pc) hi ⟨pa, pc, rfl⟩)
      have HF := Lib.hid hf
      clear hrow hc hp hf
      cases gk with
      | zero =>
        obtain rfl : i = P := by omega
        have hyes : has fl id = true := by
          cases hh : has fl id with
          | true => rfl
          | false => have := spotF_end hh; have := HP.out; have := HK.out; omega
        have hid : f.id = id := spotF_at (by rw [HP.out]; exact HF.out)
        have HYES := Lib.hid hyes
        have HID := Lib.hid hid
        clear hyes hid
        go_wp2_with fail
        refine HLIT.out.mono ?_
        rintro e w2 ⟨rfl, hb2⟩
        rw [decide_eq_true HID.out]
        have HX := Lib.hid (HB.out.trans (hb2.mono HB.out.size))
        clear hb2 k0 k1 k2 k3 k4 k5
        go_wp2_with fail
        go_ret
        exact ⟨by rw [← RES.out, HYES.out]; rfl, HX.out⟩
      | succ gk =>
        have hid : ¬ f.id = id := spotF_ahead (show i < spotF fl id by rw [HP.out]; omega) HF.out
        go_wp2_with fail
        refine HLIT.out.mono ?_
        rintro e w2 ⟨rfl, hb2⟩
        rw [decide_eq_false hid]
        have HX := Lib.hid (HB.out.trans (hb2.mono HB.out.size))
        clear hb2 k0 k1 k2 k3 k4 k5 hid
        go_wp2_with fail
        go_roundg gk
        case measure => omega
        case rel => exact ⟨i + 1, by omega, by go_num, HX.out⟩

set_option maxHeartbeats 1000000 in
set_option maxRecDepth 100000 in
theorem place_any {M F : Nat → Prop} {w : World} {wb rb : Nat} {W : Win} {fv wv : Value} (h : WinAt M F w wb W fv wv rb) (id : Nat) (hlen : W.fl.length ≤ 1000000) :
    Calls Try.prog 37 #[.pointer (some ⟨wb, 0, none⟩), .int .i64 (id : Nat)] w fun e w' => e = .returned (.int .i64 (if has W.fl id = true then (spotF W.fl id : Nat) else -1)) ∧ Below w.heap.size w w' := by
  obtain ⟨W0, hW0⟩ : ∃ W0, w.alloc (.cells #[.int .i64 (id : Nat)] 3) = W0 := ⟨_, rfl⟩
  have g0 : W0.heap[w.heap.size]? = some (.cells #[.int .i64 (id : Nat)] 3 (0, 0)) := by rw [← hW0]; exact (MapKept.heap_alloc w _).1
  have hb0 : Below w.heap.size w W0 := by rw [← hW0]; exact (Below.refl _ _).alloc (Nat.le_refl _) _
  have h0 := h.below hb0
  have HC := Lib.hid (indexF_any (F := F) (ib := w.heap.size) (id := id) h0.freads (cell4' g0 0 _ rfl) hlen)
  have c3 := h0.cell 3 _ rfl
  obtain ⟨r, hr⟩ : ∃ r : Int, (if has W.fl id = true then ((spotF W.fl id : Nat) : Int) else -1) = r := ⟨_, rfl⟩
  rw [hr] at HC ⊢
  clear hr
  obtain ⟨a, c, rfl⟩ := h.fslice
  have HW0 := Lib.hid hW0
  clear g0 h0 h hW0
  go_enter Try.func37, Try.ntmps37
  go_upto_region 1 with fail
  rw [HW0.out]
  go_wp2_with fail
  refine HC.out.mono ?_
  rintro e w1 ⟨rfl, hb1⟩
  have HB1 := Lib.hid (hb0.trans (hb1.mono hb0.size))
  clear hb1 c3
  go_wp2_with fail
  go_ret
  exact ⟨rfl, HB1.out⟩

theorem row7 {w : World} {b j : Nat} {a0 a1 a2 a3 a4 a5 a6 u : Value} {t : TypeId} (h : w.heap[b]? = some (.cells #[a0, a1, a2, a3, a4, a5, a6] t (0, 0))) : (w.setCell ⟨b, j, none⟩ u).heap[b]? = some (.cells ((#[a0, a1, a2, a3, a4, a5, a6] : Array Value).setIfInBounds j u) t (0, 0)) := heap_setCell_same _ _ _ _ _ _ h

theorem lookup_none (W : World) (rb l : Nat) (hl : l ≤ 65535) (h : W.heap[rb]? = some (.map #[] 0)) : (Instr.lookup 34 (.map (some rb)) (.int .i64 (l : Nat)) true).run Try.prog W = .ok (.tuple #[.agg #[], .bool false]) W := by
  have hk := Maps.int_keyed Try.underlying3
  have hkey := Maps.keyOf_int_mk Try.underlying3 (show (Lit.int .i64 (l : Nat)).wf = true by simp [Lit.wf, IntKind.min, IntKind.max, IntKind.bits, IntKind.signed]; omega)
  have hck := hk.check W true hkey
  have hz := Try.zeroValue110 W
  have hg : (getObj rb).run Try.prog W = .ok (.map #[] 0) W := by simp [getObj, Sem.run, h]
  rcases hk.find W hkey [] (by simp) with ⟨hf, _⟩ | ⟨j, e, _, h2, _⟩
  · simp [Instr.lookup, run_underlying Try.underlying34, hg, hck, hf, hz]
  · simp at h2

/-- The window with another last number. -/
theorem WinAt.last {M F : Nat → Prop} {w w' : World} {wb rb : Nat} {W : Win} {fv wv : Value} (h : WinAt M F w wb W fv wv rb) (l : Nat) (hW : w.setCell ⟨wb, 2, none⟩ (.int .i64 (l : Nat)) = w') : WinAt M F w' wb { W with last := l } fv wv rb ∧ Turn M w w' := by
  have hs : w'.heap.size = w.heap.size := by rw [← hW]; simp [World.setCell]
  have ho : ∀ k, k ≠ wb → w'.heap[k]? = w.heap[k]? := fun k hk => by rw [← hW]; exact heap_setCell_other _ _ _ _ hk
  obtain ⟨c1, e1, o1⟩ := h.fls
  obtain ⟨c2, e2, o2⟩ := h.wts
  have hst : ∀ b, F b → b ≠ wb := fun b hb e => (h.hF b hb).2 (e ▸ h.mw)
  refine ⟨⟨?_, ⟨c1, e1.keep eltFl (fun b _ hF => ho b (hst b hF)), o1.keep (fun b e => ho b (h.mf b e).2.1)⟩, ⟨c2, e2.keep eltMg (fun b _ hF => ho b (hst b hF)), o2.keep (fun b e => ho b (h.mq b e).2.1)⟩, (ho rb h.mr.2).trans h.res, h.mw, h.mf, h.mq, h.mr, fun x hx => by have := h.lim x hx; omega, fun b hb => ⟨by have := (h.hF b hb).1; omega, (h.hF b hb).2⟩⟩, ⟨by rw [← hW]; rfl, by rw [← hW]; rfl, by rw [← hW]; rfl, by omega, fun k _ hk => ho k (fun e => hk (e ▸ h.mw))⟩⟩
  rw [← hW]
  exact row7 h.row

set_option maxHeartbeats 1000000 in
set_option maxRecDepth 100000 in
theorem number_any {M F : Nat → Prop} {w : World} {wb rb : Nat} {W : Win} {fv wv : Value} (h : WinAt M F w wb W fv wv rb) (hlen : W.fl.length ≤ 1000000) (hlast : W.last ≤ 65535) :
    Calls Try.prog 85 #[.pointer (some ⟨wb, 0, none⟩)] w fun e w' => e = .returned (.int .i64 (launchN W : Nat)) ∧ WinAt M F w' wb { W with last := launchN W } fv wv rb ∧ Turn M w w' := by
  have HH := Lib.hid h
  obtain ⟨T, hT⟩ : ∃ T, launchN W = T := ⟨_, rfl⟩
  have HT := Lib.hid hT
  rw [hT]
  clear h hT
  go_enter Try.func85, Try.ntmps85
  go_wp2_with fail
  go_loopg [5] 65535 (fun g i5 wr => ∃ (i l : Nat), i + g = 65535 ∧ i5 = .int .i64 (i : Nat) ∧ l ≤ 65535 ∧ numb W.fl g l = T ∧ WinAt M F wr wb { W with last := l } fv wv rb ∧ Turn M w wr)
  case atStart => exact ⟨0, W.last, by omega, rfl, hlast, HT.out, HH.out, Turn.refl _ _⟩
  case round =>
    obtain ⟨i, l, hig, rfl, hl, hnum, ha, ht⟩ := hrel
    have HA := Lib.hid ha
    have HTU := Lib.hid ht
    have HNUM := Lib.hid hnum
    have c2 := ha.cell 2 _ rfl
    clear ha ht hnum
    cases gk with
    | zero =>
      obtain rfl : i = 65535 := by omega
      have hd : decide (((65535 : Nat) : Int) < 65535) = false := rfl
      obtain rfl : l = T := HNUM.out
      go_wp2_with fail
      go_ret
      exact ⟨rfl, HA.out, HTU.out⟩
    | succ gk =>
      have hd : decide ((i : Int) < 65535) = true := decide_eq_true (by omega)
      obtain ⟨l', hl'⟩ : ∃ l', nextId l = l' := ⟨_, rfl⟩
      have hlr := nextId_range l
      rw [hl'] at hlr
      have hli : ((l : Int) % 65535 + 1) = (l' : Nat) := by rw [← hl']; unfold nextId; omega
      obtain ⟨V, hV⟩ : ∃ V, wr.setCell ⟨wb, 2, none⟩ (.int .i64 (l' : Nat)) = V := ⟨_, rfl⟩
      obtain ⟨hav, htv⟩ := HA.out.last l' hV
      have f2 := frozen_of_row wr wb 2 _ _ HA.out.row
      have k2 := hav.cell 2 _ rfl
      have k5 := hav.cell 5 _ rfl
      have kr := hav.res
      have hnum := HNUM.out
      rw [numb, hl'] at hnum
      have HNU := Lib.hid hnum
      have HAV := Lib.hid hav
      have HTV := Lib.hid (HTU.out.trans' htv (fun x hx => .inl hx))
      have HPL := Lib.hid (fun (X : World) (hb : Below V.heap.size V X) => place_any (hav.below hb) l' hlen)
      clear hav htv hnum hl'
      go_upto_region 4 with fail
      (try rw [hV])
      have kk2 : (V.alloc (.cells #[] 110)).cell? ⟨wb, 2, none⟩ = some (.int .i64 (l' : Nat)) := cell_below' ((Below.refl _ V).alloc (Nat.le_refl _) _) k2
      have kk5 : (V.alloc (.cells #[] 110)).cell? ⟨wb, 5, none⟩ = some (.map (some rb)) := cell_below' ((Below.refl _ V).alloc (Nat.le_refl _) _) k5
      have lk1 := lookup_none V.drew rb l' hlr.2 kr
      have lk2 := lookup_none (V.alloc (.cells #[] 110)).drew rb l' hlr.2 ((Below.heap_alloc V _ rb (Array.getElem?_eq_some_iff.1 kr).1).trans kr)
      go_region
      all_goals
        obtain ⟨V2, hV2⟩ : ∃ V2, (V.alloc (.cells #[] 110)).drew = V2 := ⟨_, rfl⟩
        have hbv : Below V.heap.size V V2 := by rw [← hV2]; exact ((Below.refl _ V).alloc (Nat.le_refl _) _).drew
        rw [hV2]
        have HBV := Lib.hid hbv
        clear hbv hV2 kk2 kk5 lk1 lk2 kr k5
        have k2' := cell_below' HBV.out k2
        clear k2
        go_wp2_with fail
        refine (HPL.out _ HBV.out).mono ?_
        rintro e V3 ⟨rfl, hb3⟩
        have hb3' := HBV.out.trans (hb3.mono HBV.out.size)
        have HA3 := Lib.hid (HAV.out.below hb3')
        have HT3 := Lib.hid (HTV.out.trans' (Turn.of_below (S := M) hb3') (fun x hx => .inl hx))
        have hnum := HNU.out
        have c2' := HA3.out.cell 2 _ rfl
        clear hb3 hb3' k2'
        cases hh : has W.fl l' with
        | true =>
          rw [hh, if_pos rfl] at hnum
          have HNUM2 := Lib.hid hnum
          simp only [if_true]
          obtain ⟨sp, hsp⟩ : ∃ sp, spotF W.fl l' = sp := ⟨_, rfl⟩
          rw [hsp]
          have hd2 : decide (((sp : Nat) : Int) < 0) = false := decide_eq_false (by omega)
          clear hnum hh hsp
          go_wp2_with fail
          go_roundg gk
          case measure => omega
          case rel => exact ⟨i + 1, l', by omega, by go_num, hlr.2, HNUM2.out, HA3.out, HT3.out⟩
        | false =>
          rw [hh, if_neg (by simp)] at hnum
          have HNUM2 := Lib.hid hnum
          simp only [Bool.false_eq_true, if_false]
          have hd2 : decide ((-1 : Int) < 0) = true := rfl
          clear hnum hh
          go_wp2_with fail
          go_ret
          have e := HNUM2.out
          rw [← e]
          exact ⟨rfl, HA3.out, HT3.out⟩
end Go.Proofs.Ytppndkbicekkjaa

/- Proved here: a row of bytes appended to nil. -/
namespace Go.Proofs.Ytppndkbicekkjaa
open Go Go.RowKit Go.Proofs.Gs Go.Proofs.Rt

theorem append_nil_bytes {G : Nat → Prop} {w : World} {pv : Value} {l : List Int} (h : RowF G w 1 pv l.length (payCells l)) (hp : l.length ≤ 1000000000) :
    ∃ v1 W1, (∀ ty, (Builtin.append_ #[39, 39] ty #[.slice none 0 0, pv]).run Try.prog w = .ok v1 W1) ∧ RowF (fun x => x = w.heap.size ∧ w.heap.size < W1.heap.size) W1 1 v1 l.length (payCells l) ∧ Below w.heap.size w W1 := by
  obtain ⟨i0, hi0, hz0, hz1, hz2⟩ := info_parts infoCloB
  have hpl : (payCells l).length = l.length := List.length_map ..
  rcases RowAt.cases h.1 with ⟨h0, _, a, c, e, _⟩ | ⟨hpos, b, o, c, e, q1, q2, q3, hc⟩
  · have hl : l = [] := List.eq_nil_of_length_eq_zero h0
    subst hl
    subst e
    refine ⟨.slice none 0 0, w, fun ty => ?_, ⟨⟨rfl, none, 0, rfl, Nat.le_refl _, Nat.zero_le _, .inl rfl⟩, fun x hx => by simp [Value.ownBlock] at hx⟩, Below.refl _ _⟩
    have hf : (Builtin.firstCells i0.size 0 (.slice a 0 c)).run Try.prog w = .ok (#[] : Array Value) w := by
      cases a with
      | none => exact run_firstCells_none w i0.size 0 0 c
      | some a => exact run_firstCells_some w i0.size 0 a 0 c [] (by simp) (by simp)
    simp [Builtin.append_, run_underlying Try.underlying39, sizeOf, typeInfo, zeroValue, hi0, hz0, Builtin.lenOf, hf]
  · subst e
    refine ⟨_, _, fun ty => run_append_nil w 39 ty 5 i0 (.int .u8 0) Try.underlying39 hi0 hz0 ⟨b, o, none⟩ l.length c (payCells l) (by rw [hpl, hz1, Nat.mul_one]) (fun j v hv => (by have h9 := hc j v hv; rcases Nat.eq_zero_or_pos j with hj | hj; (subst hj; simpa [Addr.add] using h9); (simpa [Addr.add, Nat.ne_of_gt hj] using h9))) hpos (by omega) (by rw [hz2]; omega), ?_, ?_⟩
    · have hg := grownCap_ge w l.length 0 5
      have hm := grownCap_le_maxLen w l.length 0 5 (by unfold maxLen; omega)
      refine ⟨⟨by rw [hpl, Nat.mul_one], _, _, rfl, hg, hm, .inr ⟨w.heap.size, 0, rfl, by simp, fun j u hu => ?_⟩⟩, fun x hx => ⟨by simpa [Value.ownBlock] using hx.symm, by simp⟩⟩
      have hj := (List.getElem?_eq_some_iff.1 hu).1
      have := World.cell?_alloc_mark w.drew ((payCells l).toArray ++ Builtin.zeroCells (Value.int .u8 0).cells (grownCap w l.length 0 5 - l.length)) 5 (0, 0) j
      rw [show w.drew.heap.size = w.heap.size from rfl] at this
      rw [Nat.zero_add, this]
      rw [Array.getElem?_append_left (by simpa using hj)]
      simpa using hu
    · exact (Below.refl _ w).drew.alloc (Nat.le_refl _) _
end Go.Proofs.Ytppndkbicekkjaa

/- Proved here: the contract of window's own. -/
namespace Go.Proofs.Ytppndkbicekkjaa
open Go Go.RowKit Go.Proofs.Gs Go.Proofs.Rt

set_option maxHeartbeats 2000000 in
set_option maxRecDepth 100000 in
theorem own_any {F : Nat → Prop} {w : World} {v : Value} {m : MsgV} (h : MsgVal F w v m) (hn : m.pay.length ≤ 1000000000) :
    Calls Try.prog 65 #[v] w fun e w' => ∃ v', e = .returned v' ∧ MsgVal (Fresh w w') w' v' m ∧ Below w.heap.size w w' := by
  obtain ⟨pv, rfl, hp⟩ := h
  obtain ⟨n, hnn⟩ : ∃ n, m.pay.length = n := ⟨_, rfl⟩
  obtain ⟨⟨_, a, cap, rfl, _⟩, _⟩ := id hp
  obtain ⟨W0, hW0⟩ : ∃ W0, (w.alloc (.cells #[.string m.topic, .slice a m.pay.length cap, .int .i64 m.qos, .bool m.ret] 41)).alloc (.cells #[.string ⟨#[]⟩, .slice none 0 0, .int .i64 0, .bool false] 41) = W0 := ⟨_, rfl⟩
  obtain ⟨hb0, hs0, g0, g1⟩ := two_rows hW0
  obtain ⟨v1, w1, hrz, hrow, hb1⟩ := append_nil_bytes (hp.keep (Same.below hb0)) hn
  obtain ⟨⟨_, a1, c1, rfl, _⟩, _⟩ := id hrow
  have h0 := (hb1.block w.heap.size (by omega)).trans g0
  have h1 := (hb1.block (w.heap.size + 1) (by omega)).trans g1
  have HOW := Lib.hid hrow
  have HB0 := Lib.hid hb0
  have HB1 := Lib.hid hb1
  have HS0 := Lib.hid hs0
  have HNN := Lib.hid hnn
  have y1 : W0.cell? ⟨w.heap.size, 1, none⟩ = some (.slice a m.pay.length cap) := by unfold World.cell?; simp only; rw [g0]; rfl
  have r1 : w1.cell? ⟨w.heap.size, 1, none⟩ = some (.slice a m.pay.length cap) := by unfold World.cell?; simp only; rw [h0]; rfl
  have f0 := fun j => frozen_of_row w1 w.heap.size j _ _ h0
  have f1 := fun j => frozen_of_row w1 (w.heap.size + 1) j _ _ h1
  rw [hnn] at hrz hW0 h0 y1 r1 ⊢
  clear hp hrow hb0 hb1 g0 g1 hnn
  go_enter Try.func65, Try.ntmps65
  go_upto_region 2 with (at_builtin; refine Lib.wpList_append_run _ rfl _ _ _ _ rfl _ _ rfl rfl _ _ (hrz _) ?_)
  obtain ⟨w2, hw2⟩ : ∃ w2, w1.setCell ⟨w.heap.size, 1, none⟩ (.slice a1 n c1) = w2 := ⟨_, rfl⟩
  have h0' : w2.heap[w.heap.size]? = some (.cells #[.string m.topic, .slice a1 n c1, .int .i64 m.qos, .bool m.ret] 41 (0, 0)) := by rw [← hw2]; exact heap_setCell_same _ _ _ _ _ _ h0
  have h1' : w2.heap[w.heap.size + 1]? = some (.cells #[.string ⟨#[]⟩, .slice none 0 0, .int .i64 0, .bool false] 41 (0, 0)) := by rw [← hw2]; exact (heap_setCell_other _ _ _ _ (by simp)).trans h1
  rw [hw2]
  have HW2 := Lib.hid hw2
  clear hw2 h0 h1 r1 f0 f1
  have m0 : w2.cell? ⟨w.heap.size, 0, none⟩ = some (.string m.topic) := by unfold World.cell?; simp only; rw [h0']; rfl
  have m1 : w2.cell? ⟨w.heap.size, 1, none⟩ = some (.slice a1 n c1) := by unfold World.cell?; simp only; rw [h0']; rfl
  have m2 : w2.cell? ⟨w.heap.size, 2, none⟩ = some (.int .i64 m.qos) := by unfold World.cell?; simp only; rw [h0']; rfl
  have m3 : w2.cell? ⟨w.heap.size, 3, none⟩ = some (.bool m.ret) := by unfold World.cell?; simp only; rw [h0']; rfl
  have s0 : w2.cell? ⟨w.heap.size + 1, 0, none⟩ = some (.string ⟨#[]⟩) := by unfold World.cell?; simp only; rw [h1']; rfl
  have s1 : w2.cell? ⟨w.heap.size + 1, 1, none⟩ = some (.slice none 0 0) := by unfold World.cell?; simp only; rw [h1']; rfl
  have s2 : w2.cell? ⟨w.heap.size + 1, 2, none⟩ = some (.int .i64 0) := by unfold World.cell?; simp only; rw [h1']; rfl
  have s3 : w2.cell? ⟨w.heap.size + 1, 3, none⟩ = some (.bool false) := by unfold World.cell?; simp only; rw [h1']; rfl
  have f1 := fun j => frozen_of_row w2 (w.heap.size + 1) j _ _ h1'
  have H1 := Lib.hid h1'
  clear h0' h1'
  go_wp2_with fail
  obtain ⟨W, hW⟩ : ∃ W, (((w2.setCell ⟨w.heap.size + 1, 0, none⟩ (.string m.topic)).setCell ⟨w.heap.size + 1, 1, none⟩ (.slice a1 n c1)).setCell ⟨w.heap.size + 1, 2, none⟩ (.int .i64 m.qos)).setCell ⟨w.heap.size + 1, 3, none⟩ (.bool m.ret) = W := ⟨_, rfl⟩
  obtain ⟨g4, b4, s4⟩ := set4 H1.out hW
  have hlow : W0.heap.size ≤ w1.heap.size := HB1.out.size
  have hrow : RowF (fun x => x = W0.heap.size ∧ W0.heap.size < w1.heap.size) W 1 (.slice a1 n c1) n (payCells m.pay) := by
    have hs := HS0.out
    have h2 := HOW.out
    rw [HNN.out] at h2
    refine h2.keep (fun k hk hF => ?_)
    obtain ⟨hF, _⟩ := hF
    subst hF
    rw [← hW, ← HW2.out]
    exact (heap_setCell_other _ _ _ _ (by simp; omega)).trans ((heap_setCell_other _ _ _ _ (by simp; omega)).trans ((heap_setCell_other _ _ _ _ (by simp; omega)).trans ((heap_setCell_other _ _ _ _ (by simp; omega)).trans (heap_setCell_other _ _ _ _ (by simp; omega)))))
  rw [hW]
  clear hW
  have z0 : W.cell? ⟨w.heap.size + 1, 0, none⟩ = some (.string m.topic) := by unfold World.cell?; simp only; rw [g4]; rfl
  have z1 : W.cell? ⟨w.heap.size + 1, 1, none⟩ = some (.slice a1 n c1) := by unfold World.cell?; simp only; rw [g4]; rfl
  have z2 : W.cell? ⟨w.heap.size + 1, 2, none⟩ = some (.int .i64 m.qos) := by unfold World.cell?; simp only; rw [g4]; rfl
  have z3 : W.cell? ⟨w.heap.size + 1, 3, none⟩ = some (.bool m.ret) := by unfold World.cell?; simp only; rw [g4]; rfl
  have hbw : Below w.heap.size w W := by
    have e0 := HB0.out
    have e1 := HB1.out
    have hs := HS0.out
    have e2 : Below w.heap.size w1 w2 := by rw [← HW2.out]; exact (Below.refl _ _).setCell (p := ⟨w.heap.size, 1, none⟩) (Nat.le_refl _) _
    exact ((e0.trans (e1.mono (by omega))).trans e2).trans (b4 _ (by omega))
  clear m0 m1 m2 m3 s0 s1 s2 s3
  refine bodyPost_ret (v := .agg #[.string m.topic, .slice a1 n c1, .int .i64 m.qos, .bool m.ret]) (by simp [results, Try.results65, go_sem, z0, z1, z2, z3]) rfl ?_
  refine ⟨_, rfl, ⟨.slice a1 n c1, rfl, ?_⟩, hbw⟩
  rw [HNN.out]
  refine ⟨hrow.1, fun x hx => ?_⟩
  have hx2 := hrow.2 x hx
  have hs := HS0.out
  have e1 : w2.heap.size = w1.heap.size := by rw [← HW2.out]; simp [World.setCell]
  exact ⟨by omega, by omega⟩
end Go.Proofs.Ytppndkbicekkjaa

/- Plain: a region that draws its order, walked once: first what yields its value in whatever world, then what yields it in every world of a class, then the calls that stay in the class, then the rest, which stands in one order. No program in sight. -/
namespace Go.Proofs.Rg
open Go Go.RowKit

section
variable {P : Program} {ops : Array Oper} {md : Region.Mode} {C S : World → Prop} {Q : Exit → Act → World → Prop}

/-- Operations that hand back a value, or panic, and call nobody. -/
def valueKind : Op → Bool
  | .move _ | .assign _ | .pick .. | .build .. | .load .. | .binOp .. | .unOp .. | .field .. | .fieldAddr .. | .indexAddr .. | .index .. | .lookup .. | .extract .. | .makeInterface .. | .slice .. => true
  | .nilCheck _ => true
  | _ => false

theorem value_of {s : Sem Value} {w w' : World} {n : Next} (h : (do pure (Next.value (← s)) : Sem Next).run P w = .ok n w') : ∃ u, n = .value u := by
  have e : (do pure (Next.value (← s)) : Sem Next).run P w = (s.run P w).andThen (fun x w => (pure (Next.value x) : Sem Next).run P w) := by simp [go_sem]
  rw [e] at h
  cases hs : s.run P w with
  | ok x w1 =>
    rw [hs] at h
    simp [Result.andThen, go_sem] at h
    exact ⟨x, h.1.symm⟩
  | halt x w1 =>
    rw [hs] at h
    simp [Result.andThen] at h

theorem valueKind_run {o : Oper} {ρ : Operand → Value} {w w' : World} {n : Next} (hk : valueKind o.op = true) (h : (execOp ρ o).run P w = .ok n w') : ∃ u, n = .value u := by
  unfold execOp at h
  cases ho : o.op <;> rw [ho] at hk h <;> first
    | (cases hk; done)
    | exact value_of h
    | (simp [go_sem] at h; exact ⟨_, h.1.symm⟩)
    | skip
  case pick c a b =>
    have h' : (do pure (Next.value (← (do pure (if ← asBool (ρ c) then ρ a else ρ b) : Sem Value))) : Sem Next).run P w = .ok n w' := by
      rw [← h]
      simp only [bind_assoc, pure_bind]
    exact value_of h'
  case nilCheck x =>
    dsimp only at h
    split at h
    · simp [go_sem] at h
    · simp [go_sem] at h
    · simp [go_sem] at h
    · split at h
      · simp [go_sem] at h
      · simp [go_sem] at h
        generalize Sem.run P _ w = r at h
        cases r with
        | halt x w1 => simp [Result.andThen] at h
        | ok a w1 =>
          simp [Result.andThen] at h
          split at h
          · injection h with h _
            exact ⟨_, h.symm⟩
          · cases h
      · simp [go_sem] at h
        exact ⟨_, h.1.symm⟩
    · simp [go_sem] at h
      exact ⟨_, h.1.symm⟩

/-- An operation whose result is a value, quiet in a class: it yields that value there, and the world that it got. -/
theorem yieldsIf_of_qOp {i : Nat} {o : Oper} {a : Act} {K : Act → Prop} (hi : ops[i]? = some o) (hk : valueKind o.op = true) (h : qOp P ops C i K a) : ∃ v, YieldsIf P ops C o v a ∧ K (a.put o.dst v) := by
  unfold qOp at h
  simp only [hi] at h
  by_cases hw : Region.wanted o (yielded ops a.tmps) = true
  · simp only [hw, if_true] at h
    obtain ⟨v, h1, h2⟩ := h
    refine ⟨v, .inl ⟨hw, fun w hC => ?_⟩, h2⟩
    have h3 := h1 w hC
    unfold Oper.quietAt at h3
    cases hr : (execOp a.eval o).run P w with
    | halt x w' => rw [hr] at h3; simp only [Oper.quietUpon] at h3
    | ok n w' =>
      obtain ⟨u, rfl⟩ := valueKind_run hk hr
      rw [hr] at h3
      simp only [Oper.quietUpon] at h3
      rw [h3.1, h3.2]
  · simp only [hw] at h
    exact ⟨undef, .inr ⟨by simpa using hw, rfl⟩, h⟩

/-- Whatever order is picked from here on; behind an operation of 'pre' the world is of the class. -/
def wpAnyP (P : Program) (md : Region.Mode) (ops : Array Oper) (Q : Exit → Act → World → Prop) (pre : Nat → Bool) (C : World → Prop) : Nat → Array Bool → Act → World → Prop
  | 0, listed, a, w => Region.ready md ops listed = [] ∧ Q .normal a w
  | f + 1, listed, a, w =>
    (Region.ready md ops listed = [] → Q .normal a w) ∧
    ∀ i ∈ Region.ready md ops listed, wpOp P ops Q i (fun a' w' => (pre i = true → C w') ∧ wpAnyP P md ops Q pre C f (listed.setIfInBounds i true) a' w') a w

theorem wpAny_of_P {pre : Nat → Bool} : ∀ (f : Nat) (listed : Array Bool) (a : Act) (w : World), wpAnyP P md ops Q pre C f listed a w → wpAny P md ops Q f listed a w
  | 0, _, _, _, h => h
  | f + 1, _, _, _, h => ⟨h.1, fun i hi => wpOp_mono (fun a' w' h' => wpAny_of_P f _ a' w' h'.2) (h.2 i hi)⟩

/-- What an operation waits for at once, as a row of bits. -/
def edgesMask (md : Region.Mode) (ops : Array Oper) (k : Nat) : Nat :=
  match ops[k]? with
  | none => 0
  | some o => o.after.toList.foldl (fun m e => if Region.binds md e then m ||| (1 <<< e.on) else m) 0

/-- .. and through others. -/
def needs (md : Region.Mode) (ops : Array Oper) : Nat → Nat → Nat
  | 0, m => m
  | k + 1, m => needs md ops k (if m.testBit k then m ||| edgesMask md ops k else m)

/-- j waits for p, at once or through others. -/
def waitsT (md : Region.Mode) (ops : Array Oper) (_F j p : Nat) : Bool := (needs md ops j (edgesMask md ops j)).testBit p

structure Inv (md : Region.Mode) (ops : Array Oper) (listed : Array Bool) : Prop where
  size : listed.size = ops.size
  closed : ∀ j oj, ops[j]? = some oj → listed.getD j false = true → ∀ e ∈ oj.after, Region.binds md e = true → listed.getD e.on false = true

theorem Inv.set {i : Nat} {listed : Array Bool} (inv : Inv md ops listed) (hi : i ∈ Region.ready md ops listed) : Inv md ops (listed.setIfInBounds i true) := by
  obtain ⟨_, oi, hoi, hall⟩ := mem_ready.1 hi
  refine ⟨by simp [inv.size], fun j oj hj hl e he hb => ?_⟩
  by_cases hij : i = j
  · subst hij
    have : oj = oi := Option.some.inj (hj.symm.trans hoi)
    subst this
    exact getD_set_true (hall e he hb)
  · rw [getD_set_ne false hij] at hl
    exact getD_set_true (inv.closed j oj hj hl e he hb)

def Blocks (md : Region.Mode) (ops : Array Oper) (j p : Nat) : Prop := ∀ listed : Array Bool, Inv md ops listed → listed.getD p false = false → listed.getD j false = false ∧ j ∉ Region.ready md ops listed

theorem Blocks.edge {j p : Nat} {oj : Oper} (hj : ops[j]? = some oj) {e : Edge} (he : e ∈ oj.after) (hb : Region.binds md e = true) (hp : e.on = p) : Blocks md ops j p := fun listed inv hun => by
  constructor
  · cases hl : listed.getD j false with
    | false => rfl
    | true =>
      have := inv.closed j oj hj hl e he hb
      rw [hp, hun] at this
      cases this
  · intro hr
    obtain ⟨_, o', ho', hall⟩ := mem_ready.1 hr
    have : o' = oj := Option.some.inj (ho'.symm.trans hj)
    subst this
    have := hall e he hb
    rw [hp, hun] at this
    cases this

theorem Blocks.trans {j k p : Nat} (h : Blocks md ops j k) (h' : Blocks md ops k p) : Blocks md ops j p := fun listed inv hun => h listed inv (h' listed inv hun).1

theorem testBit_or_one {m n p : Nat} (h : (m ||| 1 <<< n).testBit p = true) : m.testBit p = true ∨ p = n := by
  rw [Nat.testBit_or, Bool.or_eq_true] at h
  rcases h with h | h
  · exact .inl h
  · right
    rw [Nat.one_shiftLeft, Nat.testBit_two_pow] at h
    exact (of_decide_eq_true h).symm

theorem edgesMask_blocks {k p : Nat} (h : (edgesMask md ops k).testBit p = true) : Blocks md ops k p := by
  unfold edgesMask at h
  cases hk : ops[k]? with
  | none => rw [hk] at h; simp at h
  | some o =>
    rw [hk] at h
    have gen : ∀ (l : List Edge) (m : Nat), (∀ e ∈ l, e ∈ o.after) → (∀ p, m.testBit p = true → Blocks md ops k p) → ∀ p, (l.foldl (fun m e => if Region.binds md e then m ||| (1 <<< e.on) else m) m).testBit p = true → Blocks md ops k p := by
      intro l
      induction l with
      | nil => intro m _ hm p hp; exact hm p hp
      | cons e l ih =>
        intro m hl hm p hp
        rw [List.foldl_cons] at hp
        refine ih _ (fun x hx => hl x (by simp [hx])) (fun q hq => ?_) p hp
        by_cases hb : Region.binds md e = true
        · rw [if_pos hb] at hq
          rcases testBit_or_one hq with h | h
          · exact hm q h
          · exact Blocks.edge hk (hl e (by simp)) hb h.symm
        · rw [if_neg hb] at hq
          exact hm q hq
    exact gen _ _ (fun e he => by simpa using he) (fun q hq => by simp at hq) p h

theorem needs_blocks {j : Nat} : ∀ (k m : Nat), (∀ p, m.testBit p = true → Blocks md ops j p) → ∀ p, (needs md ops k m).testBit p = true → Blocks md ops j p
  | 0, m, hm, p, h => hm p h
  | k + 1, m, hm, p, h => by
    unfold needs at h
    refine needs_blocks k _ (fun q hq => ?_) p h
    by_cases hk : m.testBit k = true
    · rw [if_pos hk, Nat.testBit_or, Bool.or_eq_true] at hq
      rcases hq with h | h
      · exact hm q h
      · exact (hm k hk).trans (edgesMask_blocks h)
    · rw [if_neg hk] at hq
      exact hm q hq

theorem waitsT_not {listed : Array Bool} {p : Nat} (inv : Inv md ops listed) (hp : listed.getD p false = false) (f j : Nat) (h : waitsT md ops f j p = true) : listed.getD j false = false ∧ j ∉ Region.ready md ops listed :=
  needs_blocks j _ (fun _ hq => edgesMask_blocks hq) p h listed inv hp

theorem takeP {pre : Nat → Bool} {F i : Nat} {oi : Oper} {v : Value} (hi : ops[i]? = some oi) (hsel : ∀ (j : Nat) (o : Oper) cs b, ops[j]? = some o → o.op ≠ .select cs b)
    (hQ : ∀ c a w, Q (.panic c) (a.put oi.dst v) w → Q (.panic c) a w) (hSi : ∀ w, S w → pre i = true → C w) :
    ∀ (f : Nat) (listed : Array Bool) (a : Act) (w : World), Inv md ops listed → (∀ j, j < ops.size → j ≠ i → listed.getD j true = false → (∀ w, (pre j = true → C w) → S w) ∨ waitsT md ops F j i = true) →
      (∀ j oj, ops[j]? = some oj → j ≠ i → listed.getD j true = false → (∀ e ∈ oj.after, Region.binds md e = true → e.on ≠ i) → oi.apart ops oj = true) →
      i ∈ Region.ready md ops listed → YieldsIf P ops S oi v a → S w →
      wpAnyP P md ops Q pre C f (listed.setIfInBounds i true) (a.put oi.dst v) w → wpAnyP P md ops Q pre C (f + 1) listed a w := by
  intro f
  induction f with
  | zero =>
    intro listed a w _ _ _ hr hy hS H
    refine ⟨fun h => (by rw [h] at hr; cases hr), fun j hj => ?_⟩
    by_cases hji : j = i
    · subst hji; exact hy.wpOp hi hS ⟨hSi w hS, H⟩
    · have := ready_mono hj hji
      rw [H.1] at this
      cases this
  | succ f ih =>
    intro listed a w inv hstep hfree hr hy hS H
    refine ⟨fun h => (by rw [h] at hr; cases hr), fun j hj => ?_⟩
    by_cases hji : j = i
    · subst hji; exact hy.wpOp hi hS ⟨hSi w hS, H⟩
    · have h1 := H.2 j (ready_mono hj hji)
      obtain ⟨hjun, oj, hoj, hall⟩ := mem_ready.1 hj
      have hun := getD_both (mem_ready.1 hr).1
      have hnot : ∀ e ∈ oj.after, Region.binds md e = true → e.on ≠ i := fun e he hb heq => by
        have h1 := hall e he hb
        rw [heq, hun] at h1
        cases h1
      have hjs : j < ops.size := (Array.getElem?_eq_some_iff.1 hoj).1
      have hpres : ∀ w, (pre j = true → C w) → S w := (hstep j hjs hji hjun).resolve_right (fun hw => (waitsT_not inv hun F j hw).2 hj)
      have h2 := wpOp_putIf hoj (hfree j oj hoj hji hjun hnot) (fun cs b => hsel i oi cs b hi) (fun cs b => hsel j oj cs b hoj) hQ hy h1
      have hfree' : ∀ k ok, ops[k]? = some ok → k ≠ i → (listed.setIfInBounds j true).getD k true = false →
          (∀ e ∈ ok.after, Region.binds md e = true → e.on ≠ i) → oi.apart ops ok = true := fun k ok hk hki hun hno => by
        refine hfree k ok hk hki ?_ hno
        by_cases hjk : j = k
        · subst hjk; exact hjun
        · rw [getD_set_ne true hjk] at hun; exact hun
      have hstep' : ∀ k, k < ops.size → k ≠ i → (listed.setIfInBounds j true).getD k true = false → (∀ w, (pre k = true → C w) → S w) ∨ waitsT md ops F k i = true := fun k hk hki hun => by
        refine hstep k hk hki ?_
        by_cases hjk : j = k
        · subst hjk; exact hjun
        · rw [getD_set_ne true hjk] at hun; exact hun
      refine wpOp_mono (fun a' w' h3 => ⟨h3.2.1, ih (listed.setIfInBounds j true) a' w' (inv.set hj) hstep' hfree' (ready_mono hr (Ne.symm hji)) h3.1 (hpres w' h3.2.1) ?_⟩) h2
      rw [Array.setIfInBounds_comm _ _ hji]
      exact h3.2.2

def pick (ops : Array Oper) (is : List Nat) : List Oper := is.filterMap fun i => ops[i]?

theorem pick_cons {i : Nat} {o : Oper} {is : List Nat} (h : ops[i]? = some o) : pick ops (i :: is) = o :: pick ops is := by
  unfold pick
  rw [List.filterMap_cons_some h]

def after (listed : Array Bool) : List Nat → Array Bool
  | [] => listed
  | i :: is => after (listed.setIfInBounds i true) is

def takeB (md : Region.Mode) (ops : Array Oper) (ok : Array Bool → Nat → Bool) : List Nat → Array Bool → Bool
  | [], _ => true
  | i :: is, listed => (Region.ready md ops listed).contains i && Region.free md ops listed i && (match ops[i]? with | some o => valueKind o.op | none => false) && ok listed i && takeB md ops ok is (listed.setIfInBounds i true)

/-- A row of operations is taken first, one behind the other. -/
theorem takeL {pre : Nat → Bool} {ok : Array Bool → Nat → Bool} {F : Nat} (hs : Region.noSelect ops = true) (hQ : ∀ c a d v w, Q (.panic c) (a.put d v) w → Q (.panic c) a w)
    (hok : ∀ listed i, ok listed i = true → (∀ w, S w → pre i = true → C w) ∧ ∀ j, j < ops.size → j ≠ i → listed.getD j true = false → (∀ w, (pre j = true → C w) → S w) ∨ waitsT md ops F j i = true) {w : World} (hS : S w) {K : Act → Prop} {g : Nat} :
    ∀ (is : List Nat) (listed : Array Bool) (a : Act), takeB md ops ok is listed = true → Inv md ops listed → wpQuiet P ops S K (pick ops is) a →
      (∀ a', K a' → Inv md ops (after listed is) → wpAnyP P md ops Q pre C g (after listed is) a' w) → wpAnyP P md ops Q pre C (g + is.length) listed a w
  | [], listed, a, _, inv, h, hK => hK a h inv
  | i :: is, listed, a, hB, inv, h, hK => by
    simp only [takeB, Bool.and_eq_true] at hB
    obtain ⟨⟨⟨⟨hr, hf⟩, hk⟩, ho⟩, hB'⟩ := hB
    have hr' : i ∈ Region.ready md ops listed := by simpa using hr
    obtain ⟨_, o, hi, _⟩ := mem_ready.1 hr'
    rw [hi] at hk
    rw [pick_cons hi] at h
    have hq : qOp P ops S i (wpQuiet P ops S K (pick ops is)) a := by unfold qOp; simp only [hi]; exact h
    obtain ⟨v, hy, hn⟩ := yieldsIf_of_qOp hi hk hq
    exact takeP hi (Region.noSelect_spec hs) (fun c a w => hQ c a _ _ w) (hok listed i ho).1 (g + is.length) listed a w inv (hok listed i ho).2 (Region.free_spec hi hf) hr' hy hS
      (takeL hs hQ hok hS is _ _ hB' (inv.set hr') hn hK)

/-- The calls: whatever order is picked, none of the tail may come up ahead of them. -/
def wpAnyT (P : Program) (md : Region.Mode) (ops : Array Oper) (C : World → Prop) (isHead : Nat → Bool) (L : Array Bool → Act → Prop) : Nat → Array Bool → Act → Prop
  | 0, listed, a => L listed a
  | f + 1, listed, a =>
    Region.ready md ops listed ≠ [] ∧ ∀ i ∈ Region.ready md ops listed, isHead i = true ∧ qOp P ops C i (wpAnyT P md ops C isHead L f (listed.setIfInBounds i true)) a

theorem wpAnyP_of_T {pre isHead : Nat → Bool} {g : Nat} {L : Array Bool → Act → Prop} (hL : ∀ listed a w, C w → L listed a → wpAnyP P md ops Q pre C g listed a w) :
    ∀ (f : Nat) (listed : Array Bool) (a : Act) (w : World), C w → wpAnyT P md ops C isHead L f listed a → wpAnyP P md ops Q pre C (f + g) listed a w
  | 0, listed, a, w, hw, h => by rw [Nat.zero_add]; exact hL _ _ _ hw h
  | f + 1, listed, a, w, hw, h => by
    rw [show f + 1 + g = (f + g) + 1 by omega]
    exact ⟨fun h0 => absurd h0 h.1, fun i hi => wpOp_of_qOp hw (fun a' w' hw' h' => ⟨fun _ => hw', wpAnyP_of_T hL f _ a' w' hw' h'⟩) (h.2 i hi).2⟩

theorem wpAnyT_first {isHead : Nat → Bool} {F i : Nat} {oi : Oper} {v : Value} {L : Array Bool → Act → Prop} (hi : ops[i]? = some oi) (hsel : ∀ (j : Nat) (o : Oper) cs b, ops[j]? = some o → o.op ≠ .select cs b)
    (hdone : ∀ listed a, L listed a → ∀ j ∈ Region.ready md ops listed, isHead j = false) :
    ∀ (f : Nat) (listed : Array Bool) (a : Act), Inv md ops listed → (∀ j, j < ops.size → isHead j = false → listed.getD j true = false → waitsT md ops F j i = true) →
      (∀ j oj, ops[j]? = some oj → j ≠ i → listed.getD j true = false → (∀ e ∈ oj.after, Region.binds md e = true → e.on ≠ i) → oi.apart ops oj = true) →
      i ∈ Region.ready md ops listed → YieldsIn P ops C oi v a →
      wpAnyT P md ops C isHead L f (listed.setIfInBounds i true) (a.put oi.dst v) → wpAnyT P md ops C isHead L (f + 1) listed a := by
  intro f
  induction f with
  | zero =>
    intro listed a inv hG _ hr hy H
    have hun := getD_both (mem_ready.1 hr).1
    refine ⟨fun h => (by rw [h] at hr; cases hr), fun j hj => ?_⟩
    have hjh : isHead j = true := by
      cases hh : isHead j with
      | true => rfl
      | false =>
        obtain ⟨hjun, oj, hoj, _⟩ := mem_ready.1 hj
        exact absurd hj (waitsT_not inv hun F j (hG j (Array.getElem?_eq_some_iff.1 hoj).1 hh hjun)).2
    refine ⟨hjh, ?_⟩
    by_cases hji : j = i
    · subst hji; exact hy.qOp hi H
    · have := hdone _ _ H j (ready_mono hj hji)
      rw [hjh] at this
      cases this
  | succ f ih =>
    intro listed a inv hG hfree hr hy H
    have hun := getD_both (mem_ready.1 hr).1
    refine ⟨fun h => (by rw [h] at hr; cases hr), fun j hj => ?_⟩
    have hjh : isHead j = true := by
      cases hh : isHead j with
      | true => rfl
      | false =>
        obtain ⟨hjun, oj, hoj, _⟩ := mem_ready.1 hj
        exact absurd hj (waitsT_not inv hun F j (hG j (Array.getElem?_eq_some_iff.1 hoj).1 hh hjun)).2
    refine ⟨hjh, ?_⟩
    by_cases hji : j = i
    · subst hji; exact hy.qOp hi H
    · have h1 := (H.2 j (ready_mono hj hji)).2
      obtain ⟨hjun, oj, hoj, hall⟩ := mem_ready.1 hj
      have hnot : ∀ e ∈ oj.after, Region.binds md e = true → e.on ≠ i := fun e he hb heq => by
        have h1 := hall e he hb
        rw [heq, hun] at h1
        cases h1
      have h2 := qOp_put hoj (hfree j oj hoj hji hjun hnot) (fun cs b => hsel i oi cs b hi) (fun cs b => hsel j oj cs b hoj) hy h1
      have hfree' : ∀ k ok, ops[k]? = some ok → k ≠ i → (listed.setIfInBounds j true).getD k true = false →
          (∀ e ∈ ok.after, Region.binds md e = true → e.on ≠ i) → oi.apart ops ok = true := fun k ok hk hki hun hno => by
        refine hfree k ok hk hki ?_ hno
        by_cases hjk : j = k
        · subst hjk; exact hjun
        · rw [getD_set_ne true hjk] at hun; exact hun
      have hG' : ∀ k, k < ops.size → isHead k = false → (listed.setIfInBounds j true).getD k true = false → waitsT md ops F k i = true := fun k hk hh hun => by
        refine hG k hk hh ?_
        by_cases hjk : j = k
        · subst hjk; exact hjun
        · rw [getD_set_ne true hjk] at hun; exact hun
      refine qOp_mono (fun a' h3 => ih (listed.setIfInBounds j true) a' (inv.set hj) hG' hfree' (ready_mono hr (Ne.symm hji)) h3.1 ?_) h2
      rw [Array.setIfInBounds_comm _ _ hji]
      exact h3.2

def headB (md : Region.Mode) (ops : Array Oper) : List Nat → Array Bool → Bool
  | [], _ => true
  | i :: is, listed => (Region.ready md ops listed).contains i && Region.free md ops listed i && headB md ops is (listed.setIfInBounds i true)

theorem wpAnyT_lex {hs : List Nat} {F : Nat} {Lq : Act → Prop} {done : Array Bool → Bool} (hsel : Region.noSelect ops = true) (hdone : ∀ listed, done listed = true → ∀ j ∈ Region.ready md ops listed, hs.contains j = false) :
    ∀ (is : List Nat) (listed : Array Bool) (a : Act), (∀ i ∈ is, i ∈ hs) → headB md ops is listed = true → Inv md ops listed → (∀ i ∈ hs, ∀ j, j < ops.size → hs.contains j = false → listed.getD j true = false → waitsT md ops F j i = true) → done (after listed is) = true → wpQuiet P ops C Lq (pick ops is) a →
    wpAnyT P md ops C (fun j => hs.contains j) (fun listed' a' => done listed' = true ∧ listed' = after listed is ∧ Inv md ops listed' ∧ Lq a') is.length listed a
  | [], listed, a, _, _, inv, _, hd, h => ⟨hd, rfl, inv, h⟩
  | i :: is, listed, a, hsub, hB, inv, hG, hd, h => by
    simp only [headB, Bool.and_eq_true] at hB
    obtain ⟨⟨hr, hf⟩, hB'⟩ := hB
    have hr' : i ∈ Region.ready md ops listed := by simpa using hr
    obtain ⟨_, o, hi, _⟩ := mem_ready.1 hr'
    rw [pick_cons hi] at h
    have hq : qOp P ops C i (wpQuiet P ops C Lq (pick ops is)) a := by unfold qOp; simp only [hi]; exact h
    obtain ⟨v, hy, hn⟩ := yieldsIn_of_qOp hi hq
    have hin : i ∈ hs := hsub i (by simp)
    exact wpAnyT_first hi (Region.noSelect_spec hsel) (fun listed' a' hL => hdone listed' hL.1) is.length listed a inv (hG i hin) (Region.free_spec hi hf) hr' hy
      (wpAnyT_lex hsel hdone is _ _ (fun k hk => hsub k (by simp [hk])) hB' (inv.set hr') (fun i' hi' k hk hh hun => hG i' hi' k hk hh (by
        by_cases hjk : i = k
        · subst hjk; exact (mem_ready.1 hr').1
        · rw [getD_set_ne true hjk] at hun; exact hun)) hd hn)

/-- Operations that lay a new block, or none, and do nothing else. -/
def allocKind : Op → Bool
  | .build .. => true
  | .buildSlice .. => true
  | .box .. => true
  | .alloc .. => true
  | _ => false

def seqL (md : Region.Mode) (ops : Array Oper) (pre : Nat → Bool) : List Nat → Array Bool → Bool
  | [], listed => (Region.ready md ops listed).isEmpty
  | t :: ts, listed => decide (Region.ready md ops listed = [t]) && (!pre t || (match ops[t]? with | some o => allocKind o.op | none => false)) && (pre t || !(ts.any pre)) && seqL md ops pre ts (listed.setIfInBounds t true)

def Keeps {α : Type} (P : Program) (s : Sem α) : Prop := ∀ w x w', s.run P w = .ok x w' → w' = w
def Lays {α : Type} (P : Program) (s : Sem α) : Prop := ∀ w x w', s.run P w = .ok x w' → ∃ ob, w' = w.alloc ob

theorem run_bind_ok {α β : Type} {s : Sem α} {f : α → Sem β} {w w' : World} {y : β} (h : (s >>= f).run P w = .ok y w') : ∃ x w1, s.run P w = .ok x w1 ∧ (f x).run P w1 = .ok y w' := by
  have e : (s >>= f).run P w = (s.run P w).andThen (fun x w => (f x).run P w) := by simp [go_sem]
  rw [e] at h
  cases hs : s.run P w with
  | ok x w1 => rw [hs] at h; exact ⟨x, w1, rfl, h⟩
  | halt x w1 => rw [hs] at h; simp [Result.andThen] at h

theorem keeps_pure {α : Type} (x : α) : Keeps P (pure x : Sem α) := fun w y w' h => by
  simp [go_sem] at h
  exact h.2.symm
theorem keeps_bind {α β : Type} {s : Sem α} {f : α → Sem β} (hs : Keeps P s) (hf : ∀ x, Keeps P (f x)) : Keeps P (s >>= f) := fun w y w' h => by
  obtain ⟨x, w1, h1, h2⟩ := run_bind_ok h
  rw [hf x _ _ _ h2, hs _ _ _ h1]
theorem lays_bind {α β : Type} {s : Sem α} {f : α → Sem β} (hs : Keeps P s) (hf : ∀ x, Lays P (f x)) : Lays P (s >>= f) := fun w y w' h => by
  obtain ⟨x, w1, h1, h2⟩ := run_bind_ok h
  obtain rfl := hs _ _ _ h1
  exact hf x _ _ _ h2
theorem lays_then {α β : Type} {s : Sem α} {f : α → Sem β} (hs : Lays P s) (hf : ∀ x, Keeps P (f x)) : Lays P (s >>= f) := fun w y w' h => by
  obtain ⟨x, w1, h1, h2⟩ := run_bind_ok h
  rw [hf x _ _ _ h2]
  exact hs _ _ _ h1
theorem keeps_halt {α : Type} {s : Sem α} (h : ∀ w x w', s.run P w ≠ .ok x w') : Keeps P s := fun w x w' hr => absurd hr (h w x w')
theorem lays_halt {α : Type} {s : Sem α} (h : ∀ w x w', s.run P w ≠ .ok x w') : Lays P s := fun w x w' hr => absurd hr (h w x w')
theorem lays_newObj (o : Obj) : Lays P (newObj o) := fun w x w' h => by
  simp [go_sem] at h
  exact ⟨o, h.2.symm⟩
theorem lays_newRow (e : TypeId) (cs : Array Value) : Lays P (newRow e cs) := by
  unfold newRow
  exact lays_then (lays_newObj _) fun _ => keeps_pure _
theorem keeps_info (t : TypeId) : Keeps P (typeInfo t) := fun w x w' h => by
  cases hi : P.info? t with
  | none => simp [typeInfo, go_sem, hi] at h
  | some i => simp [typeInfo, go_sem, hi] at h; exact h.2.symm
theorem keeps_underlying (t : TypeId) : Keeps P (underlying t) := fun w x w' h => by
  cases hi : P.underlying t with
  | none => simp [underlying, go_sem, hi] at h
  | some i => simp [underlying, go_sem, hi] at h; exact h.2.symm
theorem keeps_zero (t : TypeId) : Keeps P (zeroValue t) := by
  unfold zeroValue
  refine keeps_bind (keeps_info t) fun x => ?_
  split
  · exact keeps_pure _
  · exact keeps_halt fun w x w' => by simp [go_sem]
theorem keeps_size (t : TypeId) : Keeps P (sizeOf t) := by
  unfold sizeOf
  exact keeps_bind (keeps_info t) fun x => keeps_pure _

theorem lays_alloc (e : TypeId) : Lays P (Instr.alloc e true (.tuple #[])) := by
  unfold Instr.alloc
  refine lays_bind (keeps_zero e) fun z => ?_
  exact lays_then (lays_newRow _ _) fun _ => keeps_pure _
theorem lays_box (e : TypeId) (v : Value) : Lays P (Instr.box e v) := by
  unfold Instr.box
  exact lays_then (lays_newRow _ _) fun _ => keeps_pure _
theorem lays_buildSlice (t : TypeId) (len : Nat) (parts : Array (Nat × Value)) : Lays P (Instr.buildSlice t len parts) := by
  unfold Instr.buildSlice
  refine lays_bind (keeps_underlying t) fun a => ?_
  split
  · rename_i elem
    refine lays_bind (keeps_size elem) fun size => ?_
    by_cases h1 : len * size > 2 ^ 24
    · rw [if_pos h1]
      exact lays_halt fun w x w' => by simp [go_sem]
    · rw [if_neg h1]
      by_cases h2 : len * size = 0
      · simp only [h2, ↓reduceIte]
        refine lays_bind (keeps_pure _) fun z => ?_
        split
        · exact lays_then (lays_newRow _ _) fun _ => keeps_pure _
        · exact lays_halt fun w x w' => by simp [go_sem]
      · simp only [h2, ↓reduceIte]
        refine lays_bind (keeps_zero elem) fun z => lays_bind (keeps_pure _) fun z => ?_
        split
        · exact lays_then (lays_newRow _ _) fun _ => keeps_pure _
        · exact lays_halt fun w x w' => by simp [go_sem]
  · exact lays_halt fun w x w' => by simp [go_sem]

theorem keeps_list {α β : Type} {f : α → Sem β} (hf : ∀ x, Keeps P (f x)) : ∀ l : List α, Keeps P (l.mapM f)
  | [] => by rw [List.mapM_nil]; exact keeps_pure _
  | x :: l => by rw [List.mapM_cons]; exact keeps_bind (hf x) fun y => keeps_bind (keeps_list hf l) fun ys => keeps_pure _
theorem keeps_array {α β : Type} {f : α → Sem β} (hf : ∀ x, Keeps P (f x)) (l : Array α) : Keeps P (l.mapM f) := by
  rw [Array.mapM_eq_mapM_toList, map_eq_pure_bind]
  exact keeps_bind (keeps_list hf _) fun ys => keeps_pure _
theorem keeps_build (t : TypeId) (parts : Array (Nat × Value)) : Keeps P (Instr.build t parts) := by
  unfold Instr.build
  refine keeps_bind (keeps_zero t) fun z => keeps_bind (keeps_underlying t) fun u => ?_
  split
  · refine keeps_bind (keeps_array (fun f => keeps_bind (keeps_size _) fun s => keeps_pure _) _) fun places => ?_
    split
    · exact keeps_pure _
    · exact keeps_halt fun w x w' => by simp [go_sem]
  · refine keeps_bind (keeps_size _) fun s => ?_
    split
    · exact keeps_pure _
    · exact keeps_halt fun w x w' => by simp [go_sem]
  · exact keeps_halt fun w x w' => by simp [go_sem]

theorem lays_value {s : Sem Value} (hs : Lays P s) {w w' : World} {n : Next} (h : (do pure (Next.value (← s)) : Sem Next).run P w = .ok n w') : (∃ u, n = .value u) ∧ (w' = w ∨ ∃ ob, w' = w.alloc ob) :=
  ⟨value_of h, .inr (lays_then hs (fun x => keeps_pure (Next.value x)) w n w' h)⟩
theorem keeps_value {s : Sem Value} (hs : Keeps P s) {w w' : World} {n : Next} (h : (do pure (Next.value (← s)) : Sem Next).run P w = .ok n w') : (∃ u, n = .value u) ∧ (w' = w ∨ ∃ ob, w' = w.alloc ob) :=
  ⟨value_of h, .inl (keeps_bind hs (fun x => keeps_pure (Next.value x)) w n w' h)⟩

theorem allocKind_run {o : Oper} {ρ : Operand → Value} {w w' : World} {n : Next} (hk : allocKind o.op = true) (h : (execOp ρ o).run P w = .ok n w') : (∃ u, n = .value u) ∧ (w' = w ∨ ∃ ob, w' = w.alloc ob) := by
  unfold execOp at h
  cases ho : o.op <;> rw [ho] at hk h <;> first
    | (cases hk; done)
    | exact lays_value (lays_alloc _) h
    | exact lays_value (lays_box _ _) h
    | exact keeps_value (keeps_build _ _) h
    | exact lays_value (lays_buildSlice _ _ _) h

theorem wpAnyP_of_seq {pre : Nat → Bool} (hCa : ∀ w ob, C w → C (World.alloc w ob)) : ∀ (ts : List Nat) (listed : Array Bool) (a : Act) (w : World), seqL md ops pre ts listed = true → (ts.any pre = true → C w) → wpList P ops Q (pick ops ts) a w → wpAnyP P md ops Q pre C ts.length listed a w
  | [], listed, a, w, hB, _, h => ⟨by simpa [seqL] using hB, h⟩
  | t :: ts, listed, a, w, hB, hC, h => by
    simp only [seqL, Bool.and_eq_true, decide_eq_true_eq, Bool.or_eq_true, Bool.not_eq_true'] at hB
    obtain ⟨⟨⟨hr, hk⟩, hp⟩, hB'⟩ := hB
    have hrt : t ∈ Region.ready md ops listed := by rw [hr]; simp
    obtain ⟨_, o, ho, _⟩ := mem_ready.1 hrt
    rw [pick_cons ho] at h
    refine ⟨fun h0 => (by rw [hr] at h0; cases h0), fun i hi => ?_⟩
    rw [hr] at hi
    have hit : i = t := by simpa using hi
    subst hit
    have hw : wpOp P ops Q i (wpList P ops Q (pick ops ts)) a w := by unfold wpOp; simp only [ho]; exact h
    cases hpre : pre i with
    | false =>
      have hno : ts.any pre = false := by
        rcases hp with hp | hp
        · rw [hpre] at hp; cases hp
        · exact hp
      exact wpOp_mono (fun a' w' h' => ⟨fun e => (by cases e), wpAnyP_of_seq hCa ts _ a' w' hB' (fun e => (by rw [hno] at e; cases e)) h'⟩) hw
    | true =>
      have hCw : C w := hC (by simp [hpre])
      have hko : allocKind o.op = true := by
        rcases hk with hk | hk
        · rw [hpre] at hk; cases hk
        · rw [ho] at hk; exact hk
      unfold wpOp at hw ⊢
      simp only [ho] at hw ⊢
      split
      · rename_i hwant
        simp only [hwant, if_true] at hw
        rcases hw with hw | hw
        · left
          unfold Oper.wp at hw ⊢
          cases hrun : (execOp a.eval o).run P w with
          | halt x w' => rw [hrun] at hw; cases x <;> simp only [Oper.upon] at hw ⊢ <;> exact hw
          | ok n w' =>
            obtain ⟨⟨u, rfl⟩, hww⟩ := allocKind_run hko hrun
            have hC' : C w' := by
              rcases hww with rfl | ⟨ob, rfl⟩
              · exact hCw
              · exact hCa _ _ hCw
            rw [hrun] at hw
            simp only [Oper.upon] at hw ⊢
            exact ⟨fun _ => hC', wpAnyP_of_seq hCa ts _ _ _ hB' (fun _ => hC') hw⟩
        · exact .inr hw
      · rename_i hwant
        simp only [hwant] at hw
        exact ⟨fun _ => hCw, wpAnyP_of_seq hCa ts _ _ _ hB' (fun _ => hCw) hw⟩

/-- Which operations keep the class: all but those taken in whatever world, and those of 'ends'. -/
def preOf (ps0 ends : List Nat) (j : Nat) : Bool := !ps0.contains j && !ends.contains j

def ok0 (ps0 ends : List Nat) (i : Nat) : Bool := !preOf ps0 ends i
def ok1 (md : Region.Mode) (ops : Array Oper) (ps0 ends : List Nat) (listed : Array Bool) (i : Nat) : Bool := (List.range ops.size).all fun j => j == i || preOf ps0 ends j || listed.getD j true || waitsT md ops ops.size j i

def normB (md : Region.Mode) (ops : Array Oper) (ps0 ps hs ts ends : List Nat) : Bool :=
  Region.noSelect ops && takeB md ops (fun _ => ok0 ps0 ends) ps0 (Array.replicate ops.size false) && takeB md ops (ok1 md ops ps0 ends) ps (after (Array.replicate ops.size false) ps0) &&
    headB md ops hs (after (after (Array.replicate ops.size false) ps0) ps) && seqL md ops (preOf ps0 ends) ts (after (after (after (Array.replicate ops.size false) ps0) ps) hs) &&
    decide (ts.length + hs.length + ps.length + ps0.length = ops.size) && ((Region.ready md ops (after (after (after (Array.replicate ops.size false) ps0) ps) hs)).all fun j => !hs.contains j) &&
    (hs.all fun i => (List.range ops.size).all fun j => hs.contains j || (after (after (Array.replicate ops.size false) ps0) ps).getD j true || waitsT md ops ops.size j i)

/-- The walk of a region, once: 'ps0' in whatever world, 'ps' in every world of the class, 'hs' the calls that stay in the class, 'ts' the rest. -/
theorem wp_region_norm {id : Nat} {a : Act} {w : World} {l : List Oper} (ps0 ps hs ts ends : List Nat) (hm : P.follows .mixedOrders = true) (hB : normB .any l.toArray ps0 ps hs ts ends = true) (hC : C { w with drawn := w.drawn + 1 }) (hCa : ∀ w ob, C w → C (World.alloc w ob))
    (hQ : ∀ c a d v w, Q (.panic c) (Act.put a d v) w → Q (.panic c) a w)
    (h : wpQuiet P l.toArray (fun _ => True) (fun a0 => wpQuiet P l.toArray C (fun a1 => wpQuiet P l.toArray C (fun a' => ∀ w', C w' → wpList P l.toArray Q (pick l.toArray ts) a' w') (pick l.toArray hs) a1) (pick l.toArray ps) a0) (pick l.toArray ps0) a) : (Code.region id l.toArray true).wp P Q a w := by
  simp only [normB, Bool.and_eq_true, decide_eq_true_eq] at hB
  obtain ⟨⟨⟨⟨⟨⟨⟨hsel, hp0⟩, hp⟩, hh⟩, hts⟩, hlen⟩, hr⟩, hblock⟩ := hB
  have inv0 : Inv .any l.toArray (Array.replicate l.toArray.size false) :=
    ⟨by simp, fun j oj _ hl => (by rw [getD_replicate_false] at hl; cases hl)⟩
  refine wp_region_any hm (wpAny_of_P (pre := preOf ps0 ends) (C := C) _ _ _ _ ?_)
  suffices hk : wpAnyP P .any l.toArray Q (preOf ps0 ends) C (ts.length + hs.length + ps.length + ps0.length) (Array.replicate l.toArray.size false) a { w with drawn := w.drawn + 1 } by rwa [hlen] at hk
  refine takeL (S := fun _ => True) (F := l.toArray.size) hsel hQ (fun _ i hi => ⟨fun w _ e => ?_, fun j _ _ _ => .inl fun _ _ => trivial⟩) trivial ps0 _ a hp0 inv0 h (fun a0 h0 inv1 => ?_)
  · unfold ok0 at hi
    rw [e] at hi
    cases hi
  refine takeL (S := C) (F := l.toArray.size) hsel hQ (fun listed i hi => ⟨fun w hw _ => hw, fun j hj hji hun => ?_⟩) hC ps _ a0 hp inv1 h0 (fun a1 h1 inv2 => ?_)
  · unfold ok1 at hi
    have := List.all_eq_true.1 hi j (List.mem_range.2 hj)
    simp only [Bool.or_eq_true, beq_iff_eq, hji, false_or, hun, Bool.false_eq_true, or_false] at this
    rcases this with h | h
    · exact .inl fun w hw => hw h
    · exact .inr h
  have hsum : ts.length + hs.length = hs.length + ts.length := Nat.add_comm _ _
  rw [hsum]
  refine wpAnyP_of_T (isHead := fun j => hs.contains j) (L := fun listed' a' => (decide (listed' = after (after (after (Array.replicate l.toArray.size false) ps0) ps) hs) = true) ∧ listed' = after (after (after (Array.replicate l.toArray.size false) ps0) ps) hs ∧ Inv .any l.toArray listed' ∧ ∀ w', C w' → wpList P l.toArray Q (pick l.toArray ts) a' w') (fun listed a' w' hw' hL => ?_) _ _ _ _ hC ?_
  · obtain ⟨_, rfl, inv3, hq⟩ := hL
    exact wpAnyP_of_seq hCa ts _ a' w' hts (fun _ => hw') (hq w' hw')
  · refine wpAnyT_lex (hs := hs) (F := l.toArray.size) (done := fun listed' => decide (listed' = after (after (after (Array.replicate l.toArray.size false) ps0) ps) hs)) hsel (fun listed hd j hj => ?_) hs _ a1 (fun _ h => h) hh inv2 (fun i hi j hj hjh hun => ?_) (by simp) h1
    · have hd := of_decide_eq_true hd
      rw [hd] at hj
      have := List.all_eq_true.1 hr j hj
      simpa using this
    · have h2 := List.all_eq_true.1 (List.all_eq_true.1 hblock i hi) j (List.mem_range.2 hj)
      simp only [Bool.or_eq_true, hjh, hun, Bool.false_eq_true, false_or] at h2
      exact h2

theorem wpQuiet_imp {Q Q' : Act → Prop} (h : ∀ a, Q a → Q' a) : ∀ (l : List Oper) (a : Act), wpQuiet P ops C Q l a → wpQuiet P ops C Q' l a
  | [], a, hh => h a hh
  | o :: rest, a, hh => by
    unfold wpQuiet at hh ⊢
    split
    · rename_i hw; rw [if_pos hw] at hh; exact Oper.quiet_mono (fun a' => wpQuiet_imp h rest a') hh
    · rename_i hw; rw [if_neg hw] at hh; exact wpQuiet_imp h rest _ hh

/-- 'What was there stands; blocks may have come.' -/
abbrev Regr (w : World) : World → Prop := fun w' => ∃ p : Regrown, w' = Sort.grow (redrawn w p.d) p.os

theorem regr_alloc {w w' : World} (ob : Obj) (h : Regr w w') : Regr w (w'.alloc ob) := by
  obtain ⟨p, rfl⟩ := h
  exact regrown_of_below ((below_regrown w p.d p.os).alloc (below_regrown w p.d p.os).size _)

theorem wp_region_norm_below {id : Nat} {a : Act} {w : World} {l : List Oper} (ps0 ps hs ts ends : List Nat) (hm : P.follows .mixedOrders = true) (hB : normB .any l.toArray ps0 ps hs ts ends = true)
    (hQ : ∀ c a d v w, Q (.panic c) (Act.put a d v) w → Q (.panic c) a w)
    (h : wpQuiet P l.toArray (fun _ => True) (fun a0 => wpQuiet P l.toArray (Regr w) (fun a1 => wpQuiet P l.toArray (Regr w) (fun a' => ∀ w', Below w.heap.size w w' → wpList P l.toArray Q (pick l.toArray ts) a' w') (pick l.toArray hs) a1) (pick l.toArray ps) a0) (pick l.toArray ps0) a) : (Code.region id l.toArray true).wp P Q a w := by
  refine wp_region_norm (C := Regr w) ps0 ps hs ts ends hm hB ⟨⟨w.drawn + 1, #[]⟩, by rw [Sort.grow_empty]; rfl⟩ (fun w' ob hw' => regr_alloc ob hw') hQ ?_
  refine wpQuiet_imp (fun a0 h0 => wpQuiet_imp (fun a1 h1 => wpQuiet_imp (fun a' h' w' hw' => ?_) _ _ h1) _ _ h0) _ _ h
  obtain ⟨p, rfl⟩ := hw'
  exact h' _ (below_regrown w p.d p.os)

theorem regr_cell {w : World} {a : Addr} {v : Value} (h : w.cell? a = some v) : ∀ (d : Nat) (os : Array Obj), (Sort.grow (redrawn w d) os).cell? a = some v := fun d os => cell_regrown h d os

end
end Go.Proofs.Rg

/- Plain: a region that draws its order and holds one call that stays in a class of worlds, beside loads that do not wait for one another: walked once. No program in sight. -/
namespace Go.Proofs.Rg
open Go Go.RowKit

section
variable {P : Program} {ops : Array Oper} {md : Region.Mode} {C S : World → Prop} {Q : Exit → Act → World → Prop}

def seqC (md : Region.Mode) (ops : Array Oper) (pre : Nat → Bool) (t : Nat) (ts : List Nat) (listed : Array Bool) : Bool :=
  decide (Region.ready md ops listed = [t]) && seqL md ops pre ts (listed.setIfInBounds t true)
def normC (md : Region.Mode) (ops : Array Oper) (ps0 ps hs : List Nat) (t0 : Nat) (ts ends : List Nat) : Bool :=
  Region.noSelect ops && takeB md ops (fun _ => ok0 ps0 ends) ps0 (Array.replicate ops.size false) && takeB md ops (ok1 md ops ps0 ends) ps (after (Array.replicate ops.size false) ps0) &&
    headB md ops hs (after (after (Array.replicate ops.size false) ps0) ps) && seqC md ops (preOf ps0 ends) t0 ts (after (after (after (Array.replicate ops.size false) ps0) ps) hs) &&
    decide (ts.length + 1 + hs.length + ps.length + ps0.length = ops.size) && ((Region.ready md ops (after (after (after (Array.replicate ops.size false) ps0) ps) hs)).all fun j => !hs.contains j) &&
    (hs.all fun i => (List.range ops.size).all fun j => hs.contains j || (after (after (Array.replicate ops.size false) ps0) ps).getD j true || waitsT md ops ops.size j i)

theorem wpOp_do {i : Nat} {o : Oper} {K : Act → World → Prop} {a : Act} {w : World} (ho : ops[i]? = some o) (hg : o.guard = none) (h : Oper.wp P o a w K Q) : wpOp P ops Q i K a w := by
  unfold wpOp
  simp only [ho]
  rw [if_pos (by simp [Region.wanted, hg])]
  exact .inl h
theorem wpAnyP_of_call {pre : Nat → Bool} (hCa : ∀ w ob, C w → C (World.alloc w ob)) (t : Nat) (ts : List Nat) (listed : Array Bool) (a : Act) (w : World) (hB : seqC md ops pre t ts listed = true) (hw : wpOp P ops Q t (fun a2 w2 => C w2 ∧ wpList P ops Q (pick ops ts) a2 w2) a w) : wpAnyP P md ops Q pre C (ts.length + 1) listed a w := by
  simp only [seqC, Bool.and_eq_true, decide_eq_true_eq] at hB
  obtain ⟨hr, hB'⟩ := hB
  refine ⟨fun h0 => (by rw [hr] at h0; cases h0), fun i hi => ?_⟩
  rw [hr] at hi
  have hit : i = t := by simpa using hi
  subst hit
  exact wpOp_mono (fun a' w' h' => ⟨fun _ => h'.1, wpAnyP_of_seq hCa ts _ a' w' hB' (fun _ => h'.1) h'.2⟩) hw

/-- The walk of a region, once: 'ps0' in whatever world, 'ps' in every world of the class, 'hs' the calls that stay in the class, 't0' a call of which it is shown that it stays in the class, 'ts' the rest. -/
theorem wp_region_norm_call {id : Nat} {a : Act} {w : World} {l : List Oper} (ps0 ps hs : List Nat) (t0 : Nat) (ts ends : List Nat) (hm : P.follows .mixedOrders = true) (hB : normC .any l.toArray ps0 ps hs t0 ts ends = true) (hC : C { w with drawn := w.drawn + 1 }) (hCa : ∀ w ob, C w → C (World.alloc w ob))
    (hQ : ∀ c a d v w, Q (.panic c) (Act.put a d v) w → Q (.panic c) a w)
    (h : wpQuiet P l.toArray (fun _ => True) (fun a0 => wpQuiet P l.toArray C (fun a1 => wpQuiet P l.toArray C (fun a' => ∀ w', C w' → wpOp P l.toArray Q t0 (fun a2 w2 => C w2 ∧ wpList P l.toArray Q (pick l.toArray ts) a2 w2) a' w') (pick l.toArray hs) a1) (pick l.toArray ps) a0) (pick l.toArray ps0) a) : (Code.region id l.toArray true).wp P Q a w := by
  simp only [normC, Bool.and_eq_true, decide_eq_true_eq] at hB
  obtain ⟨⟨⟨⟨⟨⟨⟨hsel, hp0⟩, hp⟩, hh⟩, hts⟩, hlen⟩, hr⟩, hblock⟩ := hB
  have inv0 : Inv .any l.toArray (Array.replicate l.toArray.size false) :=
    ⟨by simp, fun j oj _ hl => (by rw [getD_replicate_false] at hl; cases hl)⟩
  refine wp_region_any hm (wpAny_of_P (pre := preOf ps0 ends) (C := C) _ _ _ _ ?_)
  suffices hk : wpAnyP P .any l.toArray Q (preOf ps0 ends) C (ts.length + 1 + hs.length + ps.length + ps0.length) (Array.replicate l.toArray.size false) a { w with drawn := w.drawn + 1 } by rwa [hlen] at hk
  refine takeL (S := fun _ => True) (F := l.toArray.size) hsel hQ (fun _ i hi => ⟨fun w _ e => ?_, fun j _ _ _ => .inl fun _ _ => trivial⟩) trivial ps0 _ a hp0 inv0 h (fun a0 h0 inv1 => ?_)
  · unfold ok0 at hi
    rw [e] at hi
    cases hi
  refine takeL (S := C) (F := l.toArray.size) hsel hQ (fun listed i hi => ⟨fun w hw _ => hw, fun j hj hji hun => ?_⟩) hC ps _ a0 hp inv1 h0 (fun a1 h1 inv2 => ?_)
  · unfold ok1 at hi
    have := List.all_eq_true.1 hi j (List.mem_range.2 hj)
    simp only [Bool.or_eq_true, beq_iff_eq, hji, false_or, hun, Bool.false_eq_true, or_false] at this
    rcases this with h | h
    · exact .inl fun w hw => hw h
    · exact .inr h
  have hsum : ts.length + 1 + hs.length = hs.length + (ts.length + 1) := Nat.add_comm _ _
  rw [hsum]
  refine wpAnyP_of_T (isHead := fun j => hs.contains j) (L := fun listed' a' => (decide (listed' = after (after (after (Array.replicate l.toArray.size false) ps0) ps) hs) = true) ∧ listed' = after (after (after (Array.replicate l.toArray.size false) ps0) ps) hs ∧ Inv .any l.toArray listed' ∧ ∀ w', C w' → wpOp P l.toArray Q t0 (fun a2 w2 => C w2 ∧ wpList P l.toArray Q (pick l.toArray ts) a2 w2) a' w') (fun listed a' w' hw' hL => ?_) _ _ _ _ hC ?_
  · obtain ⟨_, rfl, inv3, hq⟩ := hL
    exact wpAnyP_of_call hCa t0 ts _ a' w' hts (hq w' hw')
  · refine wpAnyT_lex (hs := hs) (F := l.toArray.size) (done := fun listed' => decide (listed' = after (after (after (Array.replicate l.toArray.size false) ps0) ps) hs)) hsel (fun listed hd j hj => ?_) hs _ a1 (fun _ h => h) hh inv2 (fun i hi j hj hjh hun => ?_) (by simp) h1
    · have hd := of_decide_eq_true hd
      rw [hd] at hj
      have := List.all_eq_true.1 hr j hj
      simpa using this
    · have h2 := List.all_eq_true.1 (List.all_eq_true.1 hblock i hi) j (List.mem_range.2 hj)
      simp only [Bool.or_eq_true, hjh, hun, Bool.false_eq_true, false_or] at h2
      exact h2


theorem wp_region_call {id : Nat} {a : Act} {w : World} {l : List Oper} (ps0 ps hs : List Nat) (t0 : Nat) (ts ends : List Nat) (hm : P.follows .mixedOrders = true) (hB : normC .any l.toArray ps0 ps hs t0 ts ends = true)
    (hQ : ∀ c a d v w, Q (.panic c) (Act.put a d v) w → Q (.panic c) a w)
    (h : wpQuiet P l.toArray (fun _ => True) (fun a0 => wpQuiet P l.toArray (Regr w) (fun a1 => wpQuiet P l.toArray (Regr w) (fun a' => ∀ w', Below w.heap.size w w' → wpOp P l.toArray Q t0 (fun a2 w2 => Below w.heap.size w w2 ∧ wpList P l.toArray Q (pick l.toArray ts) a2 w2) a' w') (pick l.toArray hs) a1) (pick l.toArray ps) a0) (pick l.toArray ps0) a) : (Code.region id l.toArray true).wp P Q a w := by
  refine wp_region_norm_call (C := Regr w) ps0 ps hs t0 ts ends hm hB ⟨⟨w.drawn + 1, #[]⟩, by rw [Sort.grow_empty]; rfl⟩ (fun w' ob hw' => regr_alloc ob hw') hQ ?_
  refine wpQuiet_imp (fun a0 h0 => wpQuiet_imp (fun a1 h1 => wpQuiet_imp (fun a' h' w' hw' => ?_) _ _ h1) _ _ h0) _ _ h
  obtain ⟨p, rfl⟩ := hw'
  exact wpOp_mono (fun a2 w2 h2 => ⟨regrown_of_below h2.1, h2.2⟩) (h' _ (below_regrown w p.d p.os))
end
end Go.Proofs.Rg

/- Proved here: the contract of window's packet. -/
namespace Go.Proofs.Ytppndkbicekkjaa
open Go Go.RowKit Go.Proofs.Gs Go.Proofs.Rt Go.Proofs.Sw Go.Proofs.Rg
open Go.Proofs.Cc (Turn Grow)

theorem pkSize : (Try.prog.info? 45).map (·.size) = some 25 := by kernel_rfl
theorem flSize : (Try.prog.info? 86).map (·.size) = some 6 := by kernel_rfl
theorem mgSize : (Try.prog.info? 41).map (·.size) = some 4 := by kernel_rfl

/-- A whole row stored, at a step of a region that draws. -/
theorem step_store_row {P : Program} {ops : Array Oper} {o : Oper} {a : Act} {w : World} {K : Act → World → Prop} {Q : Exit → Act → World → Prop} {E : Prop} (hgd : o.guard = none) (ty : TypeId) (x y : Operand) (ho : o.op = .store ty x y)
    (g : Nat) (cells : Array Value) (hx : a.eval x = .pointer (some ⟨g, 0, none⟩)) (hy : a.eval y = .agg cells)
    (t : TypeId) (old : Array Value) (hg : w.heap[g]? = some (.cells old t (0, 0))) (hi : (P.info? ty).map (·.size) = some cells.size)
    (hold : old.size = cells.size) (h1 : cells.all (·.oneCell') = true) (h : K (a.put o.dst undef) (w.setRow g cells)) :
    if Region.wanted o (yielded ops a.tmps) = true then Oper.wp P o a w K Q else E := by
  have hw : Region.wanted o (yielded ops a.tmps) = true := by simp [Region.wanted, hgd]
  rw [if_pos hw]
  exact wp_store_row ty x y ho g cells hx hy t old hg hi hold h1 h

theorem run_storeAt_row {P : Program} (w : World) (g : Nat) (t ty : TypeId) (old cells : Array Value) (hg : w.heap[g]? = some (.cells old t (0, 0))) (hi : (P.info? ty).map (·.size) = some cells.size) (ho : old.size = cells.size) (h1 : cells.all (·.oneCell') = true) :
    (Instr.storeAt ty (.pointer (some ⟨g, 0, none⟩)) (.agg cells)).run P w = .ok () (w.setRow g cells) := by
  simp only [Instr.storeAt, Instr.sureAddr, Sem.run_bind, Sem.run_pure, Result.andThen_ok, run_storeVar_row w g t ty old cells hg hi ho h1]

theorem row_set {w W : World} {g : Nat} {old cs : Array Value} {t : TypeId} (hg : w.heap[g]? = some (.cells old t (0, 0))) (h : w.setRow g cs = W) : W.heap[g]? = some (.cells cs t (0, 0)) ∧ (∀ k, k ≠ g → W.heap[k]? = w.heap[k]?) ∧ W.heap.size = w.heap.size ∧ ∀ B, B ≤ g → Below B w W := by
  subst h
  refine ⟨setRow_heap w g old cs t _ hg, fun k hk => setRow_other w g k cs hk, by simp [World.setRow], fun B hB => ⟨rfl, rfl, rfl, by simp [World.setRow], fun k hk => setRow_other w g k cs (by omega)⟩⟩

def noPk : Array Value := (pkCells ⟨0, 0, false, noMsg⟩ (.slice none 0 0)).toArray
theorem no_pay (F : Nat → Prop) (w : World) : RowF F w 1 (.slice none 0 0) 0 (payCells []) := ⟨RowAt.nil w 1, fun b e => by simp [Value.ownBlock] at e⟩

set_option maxHeartbeats 1000000 in
set_option maxRecDepth 100000 in
theorem packet_any {F : Nat → Prop} {w : World} {pv : Value} {f : Fl} (h : RowF F w 1 pv f.msg.pay.length (payCells f.msg.pay)) (again : Bool) (hn : f.msg.pay.length ≤ 1000000000) :
    Calls Try.prog 33 #[.agg #[.int .i64 f.id, .string f.msg.topic, pv, .int .i64 f.msg.qos, .bool f.msg.ret, .bool f.rel], .bool again] w fun e w' => ∃ pv', e = .returned (.agg (pkCells (pub again f) pv').toArray) ∧ RowF (Fresh w w') w' 1 pv' (pub again f).msg.pay.length (payCells (pub again f).msg.pay) ∧ Below w.heap.size w w' := by
  obtain ⟨pa, pc, rfl⟩ := pay_slice h
  obtain ⟨pn, hpn⟩ : ∃ pn, f.msg.pay.length = pn := ⟨_, rfl⟩
  obtain ⟨W0, hW0⟩ : ∃ W0, (w.alloc (.cells #[.int .i64 f.id, .string f.msg.topic, .slice pa pn pc, .int .i64 f.msg.qos, .bool f.msg.ret, .bool f.rel] 86)).alloc (.cells noPk 45) = W0 := ⟨_, rfl⟩
  have g0 : W0.heap[w.heap.size]? = some (.cells #[.int .i64 f.id, .string f.msg.topic, .slice pa pn pc, .int .i64 f.msg.qos, .bool f.msg.ret, .bool f.rel] 86 (0, 0)) := by
    rw [← hW0]; exact (Below.heap_alloc _ _ w.heap.size (by simp)).trans (MapKept.heap_alloc w _).1
  have g1 : W0.heap[w.heap.size + 1]? = some (.cells noPk 45 (0, 0)) := by
    rw [← hW0]
    have := (MapKept.heap_alloc (w.alloc (.cells #[.int .i64 f.id, .string f.msg.topic, .slice pa pn pc, .int .i64 f.msg.qos, .bool f.msg.ret, .bool f.rel] 86)) (.cells noPk 45)).1
    rw [World.size_alloc] at this
    exact this
  have hb0 : Below w.heap.size w W0 := by rw [← hW0]; exact ((Below.refl _ _).alloc (Nat.le_refl _) _).alloc (by simp) _
  have hs0 : W0.heap.size = w.heap.size + 2 := by rw [← hW0]; simp
  have HW0 := Lib.hid (show (w.alloc (.cells #[.int .i64 f.id, .string f.msg.topic, .slice pa pn pc, .int .i64 f.msg.qos, .bool f.msg.ret, .bool f.rel] 86)).alloc (.cells #[.int .i64 0, .int .i64 0, .bool false, .int .i64 0, .string ⟨#[]⟩, .bool false, .string ⟨#[]⟩, .slice none 0 0, .int .i64 0, .bool false, .bool false, .string ⟨#[]⟩, .bool false, .slice none 0 0, .bool false, .int .i64 0, .bool false, .string ⟨#[]⟩, .slice none 0 0, .int .i64 0, .bool false, .int .i64 0, .slice none 0 0, .slice none 0 0, .slice none 0 0] 45) = W0 from hW0)
  have HB0 := Lib.hid hb0
  have HS0 := Lib.hid hs0
  have HP := Lib.hid h
  have HPN := Lib.hid hpn
  have HG1 := Lib.hid g1
  have y0 := cell4' g0 0 _ rfl
  have y1 := cell4' g0 1 _ rfl
  have y2 := cell4' g0 2 _ rfl
  have y3 := cell4' g0 3 _ rfl
  have y4 := cell4' g0 4 _ rfl
  have y5 := cell4' g0 5 _ rfl
  obtain ⟨rl, hrl⟩ : ∃ rl, f.rel = rl := ⟨_, rfl⟩
  have HRL := Lib.hid hrl
  rw [hrl] at HW0 y5 ⊢
  rw [hpn]
  clear h hb0 hs0 hW0 g0 hpn hrl g1
  cases rl with
  | true =>
    have hpub : pub again f = ⟨6, f.id, false, noMsg⟩ := by unfold pub; rw [if_pos HRL.out]
    rw [hpub]
    clear hpub
    go_enter Try.func33, Try.ntmps33
    go_upto_region 1 with fail
    rw [HW0.out]
    go_wp2_with (refine wpList_store_row rfl 45 _ _ rfl (w.heap.size + 1) _ rfl rfl _ _ HG1.out pkSize (by rfl) (by simp [Value.oneCell']) ?_)
    obtain ⟨W4, hW4⟩ : ∃ W4, W0.setRow (w.heap.size + 1) (pkCells ⟨6, f.id, false, noMsg⟩ (.slice none 0 0)).toArray = W4 := ⟨_, rfl⟩
    obtain ⟨g4, o4, s4, b4⟩ := row_set HG1.out hW4
    refine bodyPost_ret (v := .agg (pkCells ⟨6, f.id, false, noMsg⟩ (.slice none 0 0)).toArray) (results_cell_row rfl _ _ (w.heap.size + 1) _ _ _ _ rfl (by rw [← hW4] at g4; exact g4) Try.underlying45 rfl pkSize) rfl ?_
    have hfin : ∃ pv', Ending.returned (.agg (pkCells ⟨6, f.id, false, noMsg⟩ (.slice none 0 0)).toArray) = .returned (.agg (pkCells ⟨6, f.id, false, noMsg⟩ pv').toArray) ∧ RowF (Fresh w W4) W4 1 pv' noMsg.pay.length (payCells noMsg.pay) ∧ Below w.heap.size w W4 := ⟨_, rfl, no_pay _ _, HB0.out.trans (b4 _ (by omega))⟩
    rw [← hW4] at hfin
    exact hfin
  | false =>
    have hpub : pub again f = ⟨3, f.id, again, f.msg⟩ := by unfold pub; rw [if_neg (by rw [HRL.out]; simp)]
    rw [hpub]
    clear hpub
    have HOWN := Lib.hid (fun (X : World) (hb : Below W0.heap.size W0 X) => own_any (F := F) (w := X) (v := .agg #[.string f.msg.topic, .slice pa pn pc, .int .i64 f.msg.qos, .bool f.msg.ret]) (m := f.msg) ⟨_, rfl, by have h1 := (HP.out.keep (Same.below HB0.out)).keep (Same.below hb); rw [HPN.out] at h1 ⊢; exact h1⟩ hn)
    go_enter Try.func33, Try.ntmps33
    go_upto_region 1 with fail
    rw [HW0.out]
    go_upto_region 3 with fail
    have z0 := regr_cell y0
    have z1 := regr_cell y1
    have z2 := regr_cell y2
    have z3 := regr_cell y3
    have z4 := regr_cell y4
    refine wp_region_call [0, 3, 5] [1, 4] [] 2 [6, 7] [6, 7] (by kernel_rfl) (by kernel_rfl) (fun _ _ d _ _ h => by cases d <;> exact h) ?_
    simp only [pick, List.filterMap_cons, List.filterMap_nil, List.getElem?_toArray, List.getElem?_cons_zero, List.getElem?_cons_succ]
    repeat (first | (with_reducible refine wpQuiet_nil ?_) | quiet_step (fail))
    intro V1 hV1
    refine wpOp_do rfl rfl ?_
    have HCALL := Lib.hid (HOWN.out V1 hV1)
    have HV1 := Lib.hid hV1
    clear hV1 z0 z1 z2 z3 z4
    go_simp
    go_at_call 65
    refine HCALL.out.mono ?_
    rintro e w5 ⟨v5, rfl, hv5, hb5⟩
    obtain ⟨pv5, rfl, hp5⟩ := hv5
    obtain ⟨pa5, pc5, rfl⟩ := pay_slice hp5
    have hb5' := HV1.out.trans (hb5.mono HV1.out.size)
    have g5 := (hb5'.block (w.heap.size + 1) (by have := HS0.out; omega)).trans HG1.out
    have HP5 := Lib.hid hp5
    have HB5 := Lib.hid hb5'
    have HG5 := Lib.hid g5
    refine ⟨hb5', ?_⟩
    clear hp5 hb5 hb5' g5
    refine wpList_plain rfl (fun K hK => ?_)
    go_simp
    refine hK _ _ ?_
    clear hK K
    refine wpList_store_row rfl 45 _ _ rfl (w.heap.size + 1) _ rfl rfl _ _ HG5.out pkSize (by rfl) (by simp [Value.oneCell']) ?_
    go_wp2_with fail
    obtain ⟨W4, hW4⟩ : ∃ W4, w5.setRow (w.heap.size + 1) (pkCells ⟨3, f.id, again, f.msg⟩ (.slice pa5 f.msg.pay.length pc5)).toArray = W4 := ⟨_, rfl⟩
    obtain ⟨g4, o4, s4, b4⟩ := row_set HG5.out hW4
    refine bodyPost_ret (v := .agg (pkCells ⟨3, f.id, again, f.msg⟩ (.slice pa5 f.msg.pay.length pc5)).toArray) (results_cell_row rfl _ _ (w.heap.size + 1) _ _ _ _ rfl (by rw [← hW4] at g4; exact g4) Try.underlying45 rfl pkSize) rfl ?_
    have hsz := HB0.out.size
    have hsv := HV1.out.size
    have hs0 := HS0.out
    have hfin : ∃ pv', Ending.returned (.agg (pkCells ⟨3, f.id, again, f.msg⟩ (.slice pa5 f.msg.pay.length pc5)).toArray) = .returned (.agg (pkCells ⟨3, f.id, again, f.msg⟩ pv').toArray) ∧ RowF (Fresh w W4) W4 1 pv' f.msg.pay.length (payCells f.msg.pay) ∧ Below w.heap.size w W4 :=
      ⟨_, rfl, RowF.mono (RowF.keep HP5.out (fun k hk hF => o4 k (by have := hF.1; omega))) (fun x hx => ⟨by have := hx.1; omega, by have := hx.2; omega⟩), (HB0.out.trans (HB5.out.mono hsz)).trans (b4 _ (by omega))⟩
    rw [← hW4] at hfin
    exact hfin
end Go.Proofs.Ytppndkbicekkjaa

/- Proved here: the contracts of window's sendable, quality, Online, Down. -/
namespace Go.Proofs.Ytppndkbicekkjaa
open Go Go.RowKit Go.Proofs.Gs Go.Proofs.Rt Go.Proofs.Sw
open Go.Proofs.Cc (Turn Grow)

set_option maxHeartbeats 1000000 in
set_option maxRecDepth 100000 in
theorem sendable_any {w : World} {m : MsgV} {pv : Value} {n : Nat} (hp : ∃ a c, pv = .slice a n c) :
    Calls Try.prog 67 #[.agg #[.string m.topic, pv, .int .i64 m.qos, .bool m.ret]] w fun e w' => e = .returned (.bool (sendable m)) ∧ Below w.heap.size w w' := by
  obtain ⟨a, c, rfl⟩ := hp
  obtain ⟨W0, hW0⟩ : ∃ W0, w.alloc (.cells #[.string m.topic, .slice a n c, .int .i64 m.qos, .bool m.ret] 41) = W0 := ⟨_, rfl⟩
  have g0 : W0.heap[w.heap.size]? = some (.cells #[.string m.topic, .slice a n c, .int .i64 m.qos, .bool m.ret] 41 (0, 0)) := by rw [← hW0]; exact (MapKept.heap_alloc w _).1
  have hb0 : Below w.heap.size w W0 := by rw [← hW0]; exact (Below.refl _ _).alloc (Nat.le_refl _) _
  have y2 := cell4' g0 2 _ rfl
  have HW0 := Lib.hid hW0
  obtain ⟨s, hs⟩ : ∃ s, sendable m = s := ⟨_, rfl⟩
  have HS := Lib.hid hs
  rw [hs]
  clear hW0 g0 hs
  by_cases h1 : m.qos = 1
  · have hd : (m.qos == 1) = true := by rw [h1]; rfl
    have hres : s = true := by rw [← HS.out]; unfold sendable; rw [h1]; rfl
    subst hres
    clear h1
    go_enter Try.func67, Try.ntmps67
    go_upto_region 1 with fail
    rw [HW0.out]
    go_wp2_with fail
    go_ret
    exact ⟨rfl, hb0⟩
  · have hd : (m.qos == 1) = false := by rw [beq_eq_false_iff_ne]; exact h1
    by_cases h2 : m.qos = 2
    · have hd2 : (m.qos == 2) = true := by rw [h2]; rfl
      have hres : s = true := by rw [← HS.out]; unfold sendable; rw [h2]; rfl
      subst hres
      clear h1 h2
      go_enter Try.func67, Try.ntmps67
      go_upto_region 1 with fail
      rw [HW0.out]
      go_wp2_with fail
      go_ret
      exact ⟨rfl, hb0⟩
    · have hd2 : (m.qos == 2) = false := by rw [beq_eq_false_iff_ne]; exact h2
      have hres : s = false := by rw [← HS.out]; unfold sendable; simp [h1, h2]
      subst hres
      clear h1 h2
      go_enter Try.func67, Try.ntmps67
      go_upto_region 1 with fail
      rw [HW0.out]
      go_wp2_with fail
      go_ret
      exact ⟨rfl, hb0⟩

set_option maxHeartbeats 400000 in
set_option maxRecDepth 100000 in
theorem quality_any {w : World} {f : Fl} {pv : Value} {n : Nat} (hp : ∃ a c, pv = .slice a n c) :
    Calls Try.prog 38 #[.agg #[.int .i64 f.id, .string f.msg.topic, pv, .int .i64 f.msg.qos, .bool f.msg.ret, .bool f.rel]] w fun e w' => e = .returned (.int .i64 (qualF f)) ∧ Below w.heap.size w w' := by
  obtain ⟨a, c, rfl⟩ := hp
  obtain ⟨rl, hrl⟩ : ∃ rl, f.rel = rl := ⟨_, rfl⟩
  obtain ⟨W0, hW0⟩ : ∃ W0, w.alloc (.cells #[.int .i64 f.id, .string f.msg.topic, .slice a n c, .int .i64 f.msg.qos, .bool f.msg.ret, .bool rl] 86) = W0 := ⟨_, rfl⟩
  have g0 : W0.heap[w.heap.size]? = some (.cells #[.int .i64 f.id, .string f.msg.topic, .slice a n c, .int .i64 f.msg.qos, .bool f.msg.ret, .bool rl] 86 (0, 0)) := by rw [← hW0]; exact (MapKept.heap_alloc w _).1
  have hb0 : Below w.heap.size w W0 := by rw [← hW0]; exact (Below.refl _ _).alloc (Nat.le_refl _) _
  have y3 := cell4' g0 3 _ rfl
  have y5 := cell4' g0 5 _ rfl
  have HW0 := Lib.hid hW0
  have hq : qualF f = if rl = true then 2 else f.msg.qos := by unfold qualF; rw [hrl]
  rw [hq, hrl]
  clear hW0 g0 hq hrl
  cases rl with
  | true =>
    simp only [if_true]
    go_enter Try.func38, Try.ntmps38
    go_upto_region 1 with fail
    rw [HW0.out]
    go_wp2_with fail
    go_ret
    exact ⟨rfl, hb0⟩
  | false =>
    simp only [Bool.false_eq_true, if_false]
    go_enter Try.func38, Try.ntmps38
    go_upto_region 1 with fail
    rw [HW0.out]
    go_wp2_with fail
    go_ret
    exact ⟨rfl, hb0⟩

set_option maxHeartbeats 400000 in
theorem online_any {M F : Nat → Prop} {w : World} {wb rb : Nat} {W : Win} {fv wv : Value} (h : WinAt M F w wb W fv wv rb) :
    Calls Try.prog 24 #[.pointer (some ⟨wb, 0, none⟩)] w fun e w' => e = .returned (.bool W.on) ∧ w' = w := by
  have c6 := h.cell 6 _ rfl
  clear h
  go_enter Try.func24, Try.ntmps24
  go_wp2_with fail
  go_ret
  exact ⟨rfl, rfl⟩

/-- The window, online or not. -/
theorem WinAt.turned {M F : Nat → Prop} {w w' : World} {wb rb : Nat} {W : Win} {fv wv : Value} (h : WinAt M F w wb W fv wv rb) (o : Bool) (hW : w.setCell ⟨wb, 6, none⟩ (.bool o) = w') : WinAt M F w' wb { W with on := o } fv wv rb ∧ Turn M w w' := by
  have hs : w'.heap.size = w.heap.size := by rw [← hW]; simp [World.setCell]
  have ho : ∀ k, k ≠ wb → w'.heap[k]? = w.heap[k]? := fun k hk => by rw [← hW]; exact heap_setCell_other _ _ _ _ hk
  obtain ⟨c1, e1, o1⟩ := h.fls
  obtain ⟨c2, e2, o2⟩ := h.wts
  have hst : ∀ b, F b → b ≠ wb := fun b hb e => (h.hF b hb).2 (e ▸ h.mw)
  refine ⟨⟨?_, ⟨c1, e1.keep eltFl (fun b _ hF => ho b (hst b hF)), o1.keep (fun b e => ho b (h.mf b e).2.1)⟩, ⟨c2, e2.keep eltMg (fun b _ hF => ho b (hst b hF)), o2.keep (fun b e => ho b (h.mq b e).2.1)⟩, (ho rb h.mr.2).trans h.res, h.mw, h.mf, h.mq, h.mr, fun x hx => by have := h.lim x hx; omega, fun b hb => ⟨by have := (h.hF b hb).1; omega, (h.hF b hb).2⟩⟩, ⟨by rw [← hW]; rfl, by rw [← hW]; rfl, by rw [← hW]; rfl, by omega, fun k _ hk => ho k (fun e => hk (e ▸ h.mw))⟩⟩
  rw [← hW]
  exact row7 h.row

set_option maxHeartbeats 400000 in
theorem down_any {M F : Nat → Prop} {w : World} {wb rb : Nat} {W : Win} {fv wv : Value} (h : WinAt M F w wb W fv wv rb) :
    Calls Try.prog 18 #[.pointer (some ⟨wb, 0, none⟩)] w fun e w' => e = .returned (.tuple #[]) ∧ WinAt M F w' wb { W with on := false } fv wv rb ∧ Turn M w w' := by
  have c6 := h.cell 6 _ rfl
  have f6 := frozen_of_row w wb 6 _ _ h.row
  obtain ⟨w1, hw1⟩ : ∃ w1, w.setCell ⟨wb, 6, none⟩ (.bool false) = w1 := ⟨_, rfl⟩
  have HT := Lib.hid (h.turned false hw1)
  clear h
  go_enter Try.func18, Try.ntmps18
  go_wp2_with fail
  (try rw [hw1])
  go_end0
  exact ⟨rfl, HT.out.1, HT.out.2⟩
end Go.Proofs.Ytppndkbicekkjaa

/- Plain: append by what it makes, at a step of a region that draws. No program in sight. -/
namespace Go.Proofs.Gs
open Go
theorem step_append_run' {P : Program} (w : World) {ops : Array Oper} {o : Oper} {a : Act} {K : Act → World → Prop} {Q : Exit → Act → World → Prop} {E : Prop} (hgd : o.guard = none) (s x : Operand) (t tn : TypeId)
    (ho : o.op = .call { callee := .builtin .append, args := #[s, x], argTypes := #[t, tn] }) (vs vx : Value) (hs : a.eval s = vs) (hx : a.eval x = vx)
    (v' : Value) (w' : World) (hr : ∀ ty, (Builtin.append_ #[t, tn] ty #[vs, vx]).run P w = .ok v' w') (h : K (a.put o.dst v') w') :
    if Region.wanted o (yielded ops a.tmps) = true then Oper.wp P o a w K Q else E := by
  have hw : Region.wanted o (yielded ops a.tmps) = true := by simp [Region.wanted, hgd]
  rw [if_pos hw]
  exact Lib.wp_append_run w s x t tn ho vs vx hs hx v' w' (hr _) h
end Go.Proofs.Gs

/- Plain: a window whose row of things under way, or of what waits, is another: behind append, behind s[1:]. No code walked. -/
namespace Go.Proofs.Ytppndkbicekkjaa
open Go Go.RowKit Go.Proofs.Gs Go.Proofs.Rt Go.Proofs.Sw
open Go.Proofs.Cc (Turn Grow)

theorem infoFl : (Try.prog.info? 86).map (fun i => (i.zero, i.size, i.bytes)) = some (some (.agg #[.int .i64 0, .string ⟨#[]⟩, .slice none 0 0, .int .i64 0, .bool false, .bool false]), 6, 72) := by kernel_rfl
theorem infoMg : (Try.prog.info? 41).map (fun i => (i.zero, i.size, i.bytes)) = some (some (.agg #[.string ⟨#[]⟩, .slice none 0 0, .int .i64 0, .bool false]), 4, 56) := by kernel_rfl
theorem info_of {P : Program} {E : TypeId} {z : Value} {k b : Nat} (h : (P.info? E).map (fun i => (i.zero, i.size, i.bytes)) = some (some z, k, b)) : ∃ i, P.info? E = some i ∧ i.zero = some z ∧ i.size = k ∧ i.bytes = b := by
  cases e : P.info? E with
  | none => rw [e] at h; cases h
  | some i =>
    rw [e] at h
    simp only [Option.map_some, Option.some.injEq, Prod.mk.injEq] at h
    exact ⟨i, rfl, h.1, h.2.1, h.2.2⟩

theorem turn_cell {M : Nat → Prop} {w w' : World} (h : Turn M w w') {b o : Nat} {u : Value} (hb : ¬ M b) (hc : w.cell? ⟨b, o, none⟩ = some u) : w'.cell? ⟨b, o, none⟩ = some u := by
  rw [← hc]
  exact World.cell?_of_block (w := w) (a := ⟨b, o, none⟩) (h.block b (World.block_lt_of_cell? w _ hc) hb)

/-- Another row of what is under way. -/
theorem WinAt.setF {M F F' : Nat → Prop} {w w6 V : World} {wb rb : Nat} {W : Win} {fv wv v' : Value} {fl' : List Fl} {css' : List (List Value)} (h : WinAt M F w wb W fv wv rb)
    (hs : ∀ k, k < w.heap.size → fv.ownBlock ≠ some k → (F k ∨ M k) → w6.heap[k]? = w.heap[k]?) (hsz : w.heap.size ≤ w6.heap.size)
    (hels : Els ElFl F' w6 css' fl') (hown : OwnAt w6 0 86 6 v' fl'.length css'.flatten) (ho : ∀ b, v'.ownBlock = some b → fv.ownBlock = some b ∨ (w.heap.size ≤ b ∧ ¬ F' b))
    (h1 : ∀ b, F b → F' b) (h2 : ∀ b, F' b → b < w6.heap.size ∧ ¬ M b) (hV : w6.setCell ⟨wb, 3, none⟩ v' = V) :
    WinAt (fun x => M x ∨ v'.ownBlock = some x) F' V wb { W with fl := fl' } v' wv rb ∧ V.heap.size = w6.heap.size ∧ (∀ k, k ≠ wb → V.heap[k]? = w6.heap[k]?) ∧ Turn M w6 V := by
  have hsz' : V.heap.size = w6.heap.size := by rw [← hV]; simp [World.setCell]
  have hoth : ∀ k, k ≠ wb → V.heap[k]? = w6.heap[k]? := fun k hk => by rw [← hV]; exact heap_setCell_other _ _ _ _ hk
  obtain ⟨c2, e2, o2⟩ := h.wts
  have hm : ∀ k, M k → fv.ownBlock ≠ some k → k ≠ wb → V.heap[k]? = w.heap[k]? := fun k hk hn hw => (hoth k hw).trans (hs k (h.lim k hk) hn (.inr hk))
  have hfw : fv.ownBlock ≠ some wb := fun e => (h.mf wb e).2.1 rfl
  have hvw : ∀ b, v'.ownBlock = some b → b ≠ wb ∧ b ≠ rb ∧ wv.ownBlock ≠ some b := fun b e => by
    rcases ho b e with e | e
    · exact ⟨(h.mf b e).2.1, (h.mf b e).2.2, fun ew => (h.mq b ew).2.2.2 e⟩
    · have k1 := h.lim _ h.mw
      have k2 := h.lim _ h.mr.1
      exact ⟨by omega, by omega, fun ew => by have := h.lim _ (h.mq b ew).1; omega⟩
  refine ⟨⟨?_, ⟨css', hels.keep eltFl (fun b _ hF => hoth b (fun e => (h2 b hF).2 (e ▸ h.mw))), hown.keep (fun b e => hoth b (hvw b e).1)⟩, ⟨c2, (e2.keep eltMg (w' := V) (fun b hb hF => ?_)).mono eltMg h1, o2.keep (fun b e => hm b (h.mq b e).1 (h.mq b e).2.2.2 (h.mq b e).2.1)⟩, ?_, .inl h.mw, fun b e => ⟨.inr e, (hvw b e).1, (hvw b e).2.1⟩, fun b e => ⟨.inl (h.mq b e).1, (h.mq b e).2.1, (h.mq b e).2.2.1, fun e2 => (hvw b e2).2.2 e⟩, ⟨.inl h.mr.1, h.mr.2⟩, ?_, ?_⟩, hsz', hoth, ⟨by rw [← hV]; rfl, by rw [← hV]; rfl, by rw [← hV]; rfl, by omega, fun k _ hk => hoth k (fun e => hk (e ▸ h.mw))⟩⟩
  · rw [← hV]
    exact row7 ((hs wb (h.lim _ h.mw) hfw (.inr h.mw)).trans h.row)
  · exact (hoth b (fun e => (h.hF b hF).2 (e ▸ h.mw))).trans (hs b hb (fun e => (h.hF b hF).2 (h.mf b e).1) (.inl hF))
  · exact (hm rb h.mr.1 (fun e => (h.mf rb e).2.2 rfl) h.mr.2).trans h.res
  · rintro x (hx | hx)
    · have := h.lim x hx; omega
    · have := (hown.bound hx).2; omega
  · intro b hb
    refine ⟨by have := (h2 b hb).1; omega, ?_⟩
    rintro (hx | hx)
    · exact (h2 b hb).2 hx
    · rcases ho b hx with e | e
      · exact (h2 b hb).2 (h.mf b e).1
      · exact e.2 hb

/-- Another row of what waits. -/
theorem WinAt.setW {M F F' : Nat → Prop} {w w6 V : World} {wb rb : Nat} {W : Win} {fv wv v' : Value} {wt' : List MsgV} {css' : List (List Value)} (h : WinAt M F w wb W fv wv rb)
    (hs : ∀ k, k < w.heap.size → wv.ownBlock ≠ some k → (F k ∨ M k) → w6.heap[k]? = w.heap[k]?) (hsz : w.heap.size ≤ w6.heap.size)
    (hels : Els ElMg F' w6 css' wt') (hown : OwnAt w6 0 41 4 v' wt'.length css'.flatten) (ho : ∀ b, v'.ownBlock = some b → wv.ownBlock = some b ∨ (w.heap.size ≤ b ∧ ¬ F' b))
    (h1 : ∀ b, F b → F' b) (h2 : ∀ b, F' b → b < w6.heap.size ∧ ¬ M b) (hV : w6.setCell ⟨wb, 4, none⟩ v' = V) :
    WinAt (fun x => M x ∨ v'.ownBlock = some x) F' V wb { W with wt := wt' } fv v' rb ∧ V.heap.size = w6.heap.size ∧ (∀ k, k ≠ wb → V.heap[k]? = w6.heap[k]?) ∧ Turn M w6 V := by
  have hsz' : V.heap.size = w6.heap.size := by rw [← hV]; simp [World.setCell]
  have hoth : ∀ k, k ≠ wb → V.heap[k]? = w6.heap[k]? := fun k hk => by rw [← hV]; exact heap_setCell_other _ _ _ _ hk
  obtain ⟨c2, e2, o2⟩ := h.fls
  have hm : ∀ k, M k → wv.ownBlock ≠ some k → k ≠ wb → V.heap[k]? = w.heap[k]? := fun k hk hn hw => (hoth k hw).trans (hs k (h.lim k hk) hn (.inr hk))
  have hfw : wv.ownBlock ≠ some wb := fun e => (h.mq wb e).2.1 rfl
  have hvw : ∀ b, v'.ownBlock = some b → b ≠ wb ∧ b ≠ rb ∧ fv.ownBlock ≠ some b := fun b e => by
    rcases ho b e with e | e
    · exact ⟨(h.mq b e).2.1, (h.mq b e).2.2.1, (h.mq b e).2.2.2⟩
    · have k1 := h.lim _ h.mw
      have k2 := h.lim _ h.mr.1
      exact ⟨by omega, by omega, fun ew => by have := h.lim _ (h.mf b ew).1; omega⟩
  refine ⟨⟨?_, ⟨c2, (e2.keep eltFl (w' := V) (fun b hb hF => ?_)).mono eltFl h1, o2.keep (fun b e => hm b (h.mf b e).1 (fun e2 => (h.mq b e2).2.2.2 e) (h.mf b e).2.1)⟩, ⟨css', hels.keep eltMg (fun b _ hF => hoth b (fun e => (h2 b hF).2 (e ▸ h.mw))), hown.keep (fun b e => hoth b (hvw b e).1)⟩, ?_, .inl h.mw, fun b e => ⟨.inl (h.mf b e).1, (h.mf b e).2⟩, fun b e => ⟨.inr e, (hvw b e).1, (hvw b e).2.1, (hvw b e).2.2⟩, ⟨.inl h.mr.1, h.mr.2⟩, ?_, ?_⟩, hsz', hoth, ⟨by rw [← hV]; rfl, by rw [← hV]; rfl, by rw [← hV]; rfl, by omega, fun k _ hk => hoth k (fun e => hk (e ▸ h.mw))⟩⟩
  · rw [← hV]
    exact row7 ((hs wb (h.lim _ h.mw) hfw (.inr h.mw)).trans h.row)
  · exact (hoth b (fun e => (h.hF b hF).2 (e ▸ h.mw))).trans (hs b hb (fun e => (h.hF b hF).2 (h.mq b e).1) (.inl hF))
  · exact (hm rb h.mr.1 (fun e => (h.mq rb e).2.2.1 rfl) h.mr.2).trans h.res
  · rintro x (hx | hx)
    · have := h.lim x hx; omega
    · have := (hown.bound hx).2; omega
  · intro b hb
    refine ⟨by have := (h2 b hb).1; omega, ?_⟩
    rintro (hx | hx)
    · exact (h2 b hb).2 hx
    · rcases ho b hx with e | e
      · exact (h2 b hb).2 (h.mq b e).1
      · exact e.2 hb

def orBlk (M : Nat → Prop) (v : Value) : Nat → Prop := fun x => M x ∨ v.ownBlock = some x
def orF (F G : Nat → Prop) : Nat → Prop := fun x => F x ∨ G x

/-- append of a thing under way. -/
theorem WinAt.moreF {M F G : Nat → Prop} {w w1 : World} {wb rb eb : Nat} {W : Win} {fv wv : Value} {f : Fl} {cs : List Value} (h : WinAt M F w wb W fv wv rb) (hb : Below w.heap.size w w1) (hel : ElFl G w1 cs f) (hrow : RowAt w1 6 (.slice (some ⟨eb, 0, none⟩) 1 1) 1 cs)
    (hG : ∀ b, G b → b < w1.heap.size ∧ ¬ M b) (hlen : W.fl.length ≤ 65535) :
    ∃ a c w6, (∀ ty, (Builtin.append_ #[82, 82] ty #[fv, .slice (some ⟨eb, 0, none⟩) 1 1]).run Try.prog w1 = .ok (.slice a (W.fl.length + 1) c) w6) ∧ w6.cell? ⟨wb, 3, none⟩ = some fv ∧ (∀ j, w6.frozen? ⟨wb, j, none⟩ = false) ∧
      ∀ V, w6.setCell ⟨wb, 3, none⟩ (.slice a (W.fl.length + 1) c) = V → WinAt (orBlk M (.slice a (W.fl.length + 1) c)) (orF F G) V wb { W with fl := W.fl ++ [f] } (.slice a (W.fl.length + 1) c) wv rb ∧ (∀ x, orBlk M (.slice a (W.fl.length + 1) c) x → M x ∨ (w1.heap.size ≤ x ∧ x < V.heap.size)) ∧ Turn M w1 V := by
  have h1 := h.below hb
  obtain ⟨css, e1, o1⟩ := h1.fls
  obtain ⟨i, q1, q2, q3, q4⟩ := info_of infoFl
  have hc1 : ∀ u ∈ cs, u.oneCell' = true := eltFl.one hel
  obtain ⟨v', w6, hr, ho, hg, hv⟩ := own_append (P := Try.prog) i _ 72 Try.underlying82 q1 q2 q3 q4 (by rfl) o1 hrow hc1 (by unfold maxLen; omega) (by omega) (Nat.zero_le _)
  obtain ⟨_, a, c, rfl, _⟩ := ho.row
  have hlt := h1.lim _ h1.mw
  have hne : fv.ownBlock ≠ some wb := fun e => (h1.mf wb e).2.1 rfl
  have hrow6 := (hg.block wb hlt (fun e => hne e.symm)).trans h1.row
  refine ⟨a, c, w6, hr, cell4' hrow6 3 _ rfl, fun j => frozen_of_row w6 wb j _ _ hrow6, fun V hV => ?_⟩
  have hsz := hg.size
  have hofs : ∀ b, (Value.slice a (W.fl.length + 1) c).ownBlock = some b → fv.ownBlock = some b ∨ b = w1.heap.size := fun b e => by
    rcases hv with hv | hv
    · exact .inl (hv ▸ e)
    · rw [hv] at e; injection e with e; exact .inr e.symm
  have hkeep : ∀ b, b < w1.heap.size → ¬ M b → w6.heap[b]? = w1.heap[b]? := fun b hb hm => hg.block b hb (fun e => hm (h1.mf b e.symm).1)
  obtain ⟨r1, r2, r3, r4⟩ := WinAt.setF (F' := orF F G) (css' := css ++ [cs]) (fl' := W.fl ++ [f]) h1 (fun k hk hn _ => hg.block k hk (fun e => hn e.symm)) hsz
    ((((e1.mono eltFl (fun b hb => Or.inl hb)).keep eltFl (w' := w6) (F := orF F G) (fun b hb hx => hkeep b hb (by rcases hx with hx | hx; exact (h1.hF b hx).2; exact (hG b hx).2)))).app (Els.one (eltFl.keep (eltFl.mono hel (fun b hb => Or.inr hb)) (F := orF F G) (w' := w6) (fun b hb hx => hkeep b hb (by rcases hx with hx | hx; exact (h1.hF b hx).2; exact (hG b hx).2)))))
    (by rw [List.flatten_append, List.length_append]; simpa using ho) (fun b e => by
      rcases hofs b e with e | e
      · exact .inl e
      · refine .inr ⟨by omega, ?_⟩
        rintro (hx | hx)
        · have := (h1.hF b hx).1; omega
        · have := (hG b hx).1; omega)
    (fun b hb => Or.inl hb) (fun b hx => by rcases hx with hx | hx; exact ⟨by have := (h1.hF b hx).1; omega, (h1.hF b hx).2⟩; exact ⟨by have := (hG b hx).1; omega, (hG b hx).2⟩) hV
  refine ⟨r1, ?_, ?_⟩
  · rintro x (hx | hx)
    · exact .inl hx
    · rcases hofs x hx with e | e
      · exact .inl (h1.mf x e).1
      · have := (ho.bound hx).2
        exact .inr ⟨by omega, by omega⟩
  · exact ⟨r4.os.trans hg.os, r4.tape.trans hg.tape, r4.output.trans hg.output, by omega, fun k hk hm => (r4.block k (by omega) hm).trans (hkeep k hk hm)⟩

/-- append of what waits. -/
theorem WinAt.moreW {M F G : Nat → Prop} {w w1 : World} {wb rb eb : Nat} {W : Win} {fv wv : Value} {f : MsgV} {cs : List Value} (h : WinAt M F w wb W fv wv rb) (hb : Below w.heap.size w w1) (hel : ElMg G w1 cs f) (hrow : RowAt w1 4 (.slice (some ⟨eb, 0, none⟩) 1 1) 1 cs)
    (hG : ∀ b, G b → b < w1.heap.size ∧ ¬ M b) (hlen : W.wt.length ≤ 1000000) :
    ∃ a c w6, (∀ ty, (Builtin.append_ #[48, 48] ty #[wv, .slice (some ⟨eb, 0, none⟩) 1 1]).run Try.prog w1 = .ok (.slice a (W.wt.length + 1) c) w6) ∧ w6.cell? ⟨wb, 4, none⟩ = some wv ∧ (∀ j, w6.frozen? ⟨wb, j, none⟩ = false) ∧
      ∀ V, w6.setCell ⟨wb, 4, none⟩ (.slice a (W.wt.length + 1) c) = V → WinAt (orBlk M (.slice a (W.wt.length + 1) c)) (orF F G) V wb { W with wt := W.wt ++ [f] } fv (.slice a (W.wt.length + 1) c) rb ∧ (∀ x, orBlk M (.slice a (W.wt.length + 1) c) x → M x ∨ (w1.heap.size ≤ x ∧ x < V.heap.size)) ∧ Turn M w1 V := by
  have h1 := h.below hb
  obtain ⟨css, e1, o1⟩ := h1.wts
  obtain ⟨i, q1, q2, q3, q4⟩ := info_of infoMg
  have hc1 : ∀ u ∈ cs, u.oneCell' = true := eltMg.one hel
  obtain ⟨v', w6, hr, ho, hg, hv⟩ := own_append (P := Try.prog) i _ 56 Try.underlying48 q1 q2 q3 q4 (by rfl) o1 hrow hc1 (by unfold maxLen; omega) (by omega) (Nat.zero_le _)
  obtain ⟨_, a, c, rfl, _⟩ := ho.row
  have hlt := h1.lim _ h1.mw
  have hne : wv.ownBlock ≠ some wb := fun e => (h1.mq wb e).2.1 rfl
  have hrow6 := (hg.block wb hlt (fun e => hne e.symm)).trans h1.row
  refine ⟨a, c, w6, hr, cell4' hrow6 4 _ rfl, fun j => frozen_of_row w6 wb j _ _ hrow6, fun V hV => ?_⟩
  have hsz := hg.size
  have hofs : ∀ b, (Value.slice a (W.wt.length + 1) c).ownBlock = some b → wv.ownBlock = some b ∨ b = w1.heap.size := fun b e => by
    rcases hv with hv | hv
    · exact .inl (hv ▸ e)
    · rw [hv] at e; injection e with e; exact .inr e.symm
  have hkeep : ∀ b, b < w1.heap.size → ¬ M b → w6.heap[b]? = w1.heap[b]? := fun b hb hm => hg.block b hb (fun e => hm (h1.mq b e.symm).1)
  obtain ⟨r1, r2, r3, r4⟩ := WinAt.setW (F' := orF F G) (css' := css ++ [cs]) (wt' := W.wt ++ [f]) h1 (fun k hk hn _ => hg.block k hk (fun e => hn e.symm)) hsz
    ((((e1.mono eltMg (fun b hb => Or.inl hb)).keep eltMg (w' := w6) (F := orF F G) (fun b hb hx => hkeep b hb (by rcases hx with hx | hx; exact (h1.hF b hx).2; exact (hG b hx).2)))).app (Els.one (eltMg.keep (eltMg.mono hel (fun b hb => Or.inr hb)) (F := orF F G) (w' := w6) (fun b hb hx => hkeep b hb (by rcases hx with hx | hx; exact (h1.hF b hx).2; exact (hG b hx).2)))))
    (by rw [List.flatten_append, List.length_append]; simpa using ho) (fun b e => by
      rcases hofs b e with e | e
      · exact .inl e
      · refine .inr ⟨by omega, ?_⟩
        rintro (hx | hx)
        · have := (h1.hF b hx).1; omega
        · have := (hG b hx).1; omega)
    (fun b hb => Or.inl hb) (fun b hx => by rcases hx with hx | hx; exact ⟨by have := (h1.hF b hx).1; omega, (h1.hF b hx).2⟩; exact ⟨by have := (hG b hx).1; omega, (hG b hx).2⟩) hV
  refine ⟨r1, ?_, ?_⟩
  · rintro x (hx | hx)
    · exact .inl hx
    · rcases hofs x hx with e | e
      · exact .inl (h1.mq x e).1
      · have := (ho.bound hx).2
        exact .inr ⟨by omega, by omega⟩
  · exact ⟨r4.os.trans hg.os, r4.tape.trans hg.tape, r4.output.trans hg.output, by omega, fun k hk hm => (r4.block k (by omega) hm).trans (hkeep k hk hm)⟩

/-- waits = waits[1:]. -/
theorem WinAt.lessW {M F : Nat → Prop} {w V : World} {wb rb n c : Nat} {W : Win} {fv : Value} {a : Option Addr} {m : MsgV} {wt : List MsgV} (h : WinAt M F w wb W fv (.slice a n c) rb) (hw : W.wt = m :: wt) (hV : w.setCell ⟨wb, 4, none⟩ (.slice (if c = 1 then a else a.map (·.add 4)) (n - 1) (c - 1)) = V) :
    WinAt M F V wb { W with wt := wt } fv (.slice (if c = 1 then a else a.map (·.add 4)) (n - 1) (c - 1)) rb ∧ Turn M w V := by
  obtain ⟨css, e1, o1⟩ := id h.wts
  have hn : n = wt.length + 1 := by
    obtain ⟨_, a', c', e, _⟩ := o1.row
    injection e with _ e _
    rw [e, hw, List.length_cons]
  subst hn
  rw [hw] at e1 o1
  obtain ⟨cs, rest, rfl, hc, hr⟩ := e1.uncons
  have hb := OwnAt.behind (i := 1) o1 (by simp)
  rw [Nat.one_mul] at hb
  have hcl := eltMg.len hc
  rw [List.flatten_cons, List.drop_append_of_le_length (by omega), List.drop_of_length_le (by omega), List.nil_append] at hb
  have hob : (Value.slice (if c = 1 then a else a.map (·.add 4)) (wt.length + 1 - 1) (c - 1)).ownBlock = (Value.slice a (wt.length + 1) c).ownBlock := cut_block
  obtain ⟨r1, r2, r3, r4⟩ := WinAt.setW (F' := F) (css' := rest) (wt' := wt) h (fun _ _ _ _ => rfl) (Nat.le_refl _) hr (by simpa using hb) (fun b e => .inl (hob ▸ e)) (fun _ h => h) (fun b hb => ⟨(h.hF b hb).1, (h.hF b hb).2⟩) hV
  refine ⟨?_, r4⟩
  have e : (fun x => M x ∨ (Value.slice (if c = 1 then a else a.map (·.add 4)) (wt.length + 1 - 1) (c - 1)).ownBlock = some x) = M := by
    funext x
    refine propext ⟨fun hx => ?_, .inl⟩
    rcases hx with hx | hx
    · exact hx
    · exact (h.mq x (hob ▸ hx)).1
  rw [e] at r1
  exact r1
end Go.Proofs.Ytppndkbicekkjaa
