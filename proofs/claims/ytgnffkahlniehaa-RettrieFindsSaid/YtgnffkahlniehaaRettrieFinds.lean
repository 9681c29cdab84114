/- Proved: crierlaw9.RettrieFinds returns true for every list of messages and every text. -/
import Derived.Test.YtgnffkahlniehaaRows
import Derived.Test.YtgnffkahlniehaaLawPost
import Derived.Test.YtgnffkahlniehaaRtArgs
import Derived.Test.YtgnffkahlniehaaRtFindsP
import Derived.StillTailTactics
import Derived.WalkKit
import Derived.ProofKit
import Derived.OpenShut
import Derived.BigRegion
import Derived.Shelf.RegionOpen
import Derived.SizedLaws
namespace Go.Proofs.Ytgnffkahlniehaa.rettrieFinds
open Go.ChangeMaps (open_string shut_string)
open Go.Proofs.Ytgnffkahlniehaa Go.ChangeShapes Go.WideShapes Go.ChangeAt Go.RowKit Go.Proofs.Gs Go.Proofs.Tri Go.Proofs.Rt Go.Proofs.Tp
set_option linter.unusedVariables false

theorem own : ownKnob Try.prog.godebug = none := by kernel_rfl

theorem row_open {F : Nat → Prop} {w : World} {a : Option Addr} {n cap : Nat} {l : List MsgV} (h : MsgsAt F w (.slice a n cap) l) (hn : l.length = n) (h0 : 0 < n) : ∃ b off, a = some ⟨b, off, none⟩ := by
  obtain ⟨pvs, _, h2, _⟩ := h
  rcases RowAt.cases h2.1 with ⟨h0', _⟩ | ⟨_, b', off', cap', e, _⟩
  · omega
  · injection e with e1 e2 e3
    exact ⟨b', off', e1⟩

set_option maxHeartbeats 8000000 in
set_option maxRecDepth 1000000 in
theorem walk (l : List MsgV) (f : ByteArray) (v1 : Value) (w : World) (h1 : MsgsAt (fun _ => True) w v1 l) (s1 : ∀ m ∈ l, m.topic.size ≤ 200000000000000 ∧ m.pay.length ≤ 200000000000000) (hf : f.size ≤ 200000000000000) :
    Calls Try.prog 4 #[v1, .string f] w fun e w' => e = .returned (.bool true) ∧ Below w.heap.size w w' := by
  obtain ⟨A1, C1, rfl, hc1, hm1⟩ := h1.slice
  cases hl : smallB l with
  | false =>
    have HS := Lib.hid (small_any h1 s1)
    rw [hl] at HS
    clear h1 s1 hl
    go_enter Try.func4, Try.ntmps4
    go_wp2_with fail
    refine HS.out.mono ?_
    rintro e w1 ⟨rfl, hb⟩
    have HB := Lib.hid hb
    clear hb
    go_wp2_with fail
    go_ret
    exact ⟨rfl, HB.out⟩
  | true =>
  have HS := Lib.hid (small_any h1 s1)
  rw [hl] at HS
  by_cases hf6 : f.size ≤ 60000
  case neg =>
    have hd : decide ((60000 : Int) < (f.size : Int)) = true := decide_eq_true (by omega)
    clear h1 s1 hl
    go_enter Try.func4, Try.ntmps4
    go_wp2_with fail
    refine HS.out.mono ?_
    rintro e w1 ⟨rfl, hb⟩
    have HB := Lib.hid hb
    clear hb
    go_wp2_with fail
    go_ret
    exact ⟨rfl, HB.out⟩
  have hd6 : decide ((60000 : Int) < (f.size : Int)) = false := decide_eq_false (by omega)
  obtain ⟨n1, z1⟩ := smallB_spec hl
  have HL := Lib.hid (fun (W : World) (hb : Below w.heap.size w W) => laid_any (h1.keep (Same.below hb)) n1 z1)
  have H1 := Lib.hid h1
  have Z1 := Lib.hid z1
  have HP0 := Lib.hid (body_pays (fun m hm => (z1 m hm).2))
  have hbl := body_length l
  obtain ⟨K1, hK1⟩ : ∃ K, l.length = K := ⟨_, rfl⟩
  have HK1 := Lib.hid hK1
  rw [hK1] at n1 hc1 hbl H1 HS HL ⊢
  clear h1 s1 hl hK1 z1
  go_enter Try.func4, Try.ntmps4
  go_wp2_with fail
  refine HS.out.mono ?_
  rintro e w1 ⟨rfl, hb⟩
  have HB1 := Lib.hid hb
  clear hb HS
  go_wp2_with fail
  refine (known_any w1).mono ?_
  rintro e w3 ⟨rfl, hb⟩
  have HB3 := Lib.hid (HB1.out.trans (hb.mono HB1.out.size))
  clear hb
  go_wp2_with fail
  refine (HL.out _ HB3.out).mono ?_
  rintro e w4 ⟨tb, FT0, t0, rfl, hg4, htl, hf4, hb⟩
  have HB4 := Lib.hid (HB3.out.trans (hb.mono HB3.out.size))
  have HG4 := Lib.hid hg4
  clear hb hg4 hf4 HL
  go_wp2_with fail
  refine (tfind_any w4 tb f).mono ?_
  rintro e w5 ⟨b1, b2, rfl, e1, e2, hb5⟩
  have HG5 := Lib.hid (HG4.out.below hb5)
  have HB5 := Lib.hid (HB4.out.trans (hb5.mono HB4.out.size))
  clear hb5
  go_wp2_with fail
  refine (given_find HG5.out HP0.out (by omega) f (by omega) e1 e2).mono ?_
  rintro e w6 ⟨v6, rfl, hm6, hb6⟩
  have HB6 := Lib.hid (HB5.out.trans (hb6.mono HB5.out.size))
  have hsort := found_sorted (keyed_body l) (fun m => matchT f m.topic)
  have hflen := found_length l (fun m => matchT f m.topic)
  obtain ⟨FD, hFD⟩ : ∃ FD, vals ((bodyOf l).filter (fun e => matchT f e.2.topic)) = FD := ⟨_, rfl⟩
  have hmemF : ∀ m ∈ FD, m.topic.size ≤ 60000 ∧ m.pay.length ≤ 60000 := fun m hm => by
    rw [← hFD] at hm
    obtain ⟨e, he, rfl⟩ := List.mem_map.1 hm
    exact Z1.out _ (body_mem (List.mem_filter.1 he).1)
  have hlast := fun (i : Nat) (m : MsgV) (h : l[i]? = some m) (ht : taken m = true) (hl : (l.drop (i + 1)).any (fun x => decide (x.topic = m.topic) && taken x) = false) (hq : matchT f m.topic = true) => last_found h ht hl (fun m => matchT f m.topic) hq
  rw [hFD] at hm6 hsort hflen hlast
  have hFK : FD.length ≤ 60 := by
    rw [← hFD]
    unfold vals
    rw [List.length_map]
    have := List.length_filter_le (fun e : List ByteArray × MsgV => matchT f e.2.topic) (bodyOf l)
    omega
  obtain ⟨A2, C2, rfl, hc2, hm2⟩ := hm6.slice
  have HM6 := Lib.hid hm6
  have HSORT := Lib.hid hsort
  have HFLEN := Lib.hid hflen
  have HLAST := Lib.hid hlast
  have HMF := Lib.hid hmemF
  obtain ⟨K2, hK2⟩ : ∃ K, FD.length = K := ⟨_, rfl⟩
  have HK2 := Lib.hid hK2
  rw [hK2] at hFK HFLEN HM6 hc2 ⊢
  clear hb6 hm6 hsort hflen hlast hmemF e1 e2 hFD hK2
  go_wp2_with fail
  go_loopg [9, 10] K1 (fun g i9 i10 wr => ∃ (i c : Nat), i + g = K1 ∧ i10 = .int .i64 (i : Nat) ∧ i9 = .int .i64 (c : Nat) ∧ c + lastCount (fun m => matchT f m.topic) (l.drop i) = K2 ∧ Below w.heap.size w wr ∧ Below w6.heap.size w6 wr)
  case atStart => exact ⟨0, 0, by omega, rfl, rfl, by rw [List.drop_zero]; have := HFLEN.out; omega, HB6.out, Below.refl _ _⟩
  case round =>
    obtain ⟨i, c, hig, rfl, rfl, hcc, hbw, hbw6⟩ := hrel
    have HCC := Lib.hid hcc
    have HBW := Lib.hid hbw
    have HBV := Lib.hid hbw6
    clear hcc hbw hbw6
    cases gk with
    | zero =>
      obtain rfl : i = K1 := by omega
      have hd : decide ((i : Int) < (i : Int)) = false := decide_eq_false (by omega)
      have hfin : c = K2 := by
        have := HCC.out
        rw [List.drop_of_length_le (by have := HK1.out; omega)] at this
        simpa [lastCount] using this
      subst hfin
      go_wp2_with fail
      go_loopg [16] c (fun g i16 wr => ∃ k : Nat, c ≤ k + g ∧ 1 ≤ k ∧ i16 = .int .i64 (k : Nat) ∧ Below w.heap.size w wr ∧ Below w6.heap.size w6 wr)
      case atStart => exact ⟨1, by omega, Nat.le_refl _, rfl, HBW.out, HBV.out⟩
      case round =>
        obtain ⟨k, hkg, hk1, rfl, hbk, hbk6⟩ := hrel
        have HBK := Lib.hid hbk
        have HBK6 := Lib.hid hbk6
        clear hbk hbk6
        by_cases hkc : k < c
        · have hd2 : decide ((k : Int) < (c : Int)) = true := decide_eq_true (by omega)
          obtain ⟨k', rfl⟩ : ∃ k', k = k' + 1 := ⟨k - 1, by omega⟩
          have hb1 : (0 : Int) ≤ (k' : Int) := by omega
          have hb2 : (k' : Int) < (c : Int) := by omega
          have hb3 : (0 : Int) ≤ (k' : Int) + 1 := by omega
          have hb4 : (k' : Int) + 1 < (c : Int) := by omega
          have hw1 : IntKind.i64.wrap (k' : Int) = (k' : Int) := by simp [IntKind.wrap, IntKind.bits, IntKind.signed]; omega
          obtain ⟨x, g1⟩ : ∃ x, FD[k']? = some x := ⟨_, List.getElem?_eq_getElem (show k' < FD.length by have := HK2.out; omega)⟩
          obtain ⟨y, g2⟩ : ∃ y, FD[k' + 1]? = some y := ⟨_, List.getElem?_eq_getElem (show k' + 1 < FD.length by have := HK2.out; omega)⟩
          obtain ⟨fb, fo, rfl⟩ := row_open HM6.out HK2.out (by omega)
          have hM := HM6.out
          rw [← HK2.out] at hM
          have hM2 := hM.keep (Same.below HBK6.out)
          obtain ⟨_, k0, _, _, _, _⟩ := hM2.one g1
          obtain ⟨_, k2, _, _, _, _⟩ := hM2.one g2
          have hnx := found_next HSORT.out g1 g2
          have HNX := Lib.hid hnx
          have hx := (HMF.out x (List.mem_of_getElem? g1)).1
          have hy := (HMF.out y (List.mem_of_getElem? g2)).1
          clear hM hM2 hnx g1 g2
          go_wp2_with fail
          go_still_tail 11, (by kernel_rfl)
          change wpList _ _ _ _ _ wr.drew
          have hbq := (below_drew wr 1)
          change Below _ _ wr.drew at hbq
          go_wp2_with fail
          refine (compare_any x.topic y.topic _ (by omega) (by omega)).mono ?_
          rintro e w7 ⟨rfl, hb7⟩
          rw [HNX.out]
          have HK7 := Lib.hid (HBK.out.trans ((hbq.trans (hb7.mono hbq.size)).mono HBK.out.size))
          have HK76 := Lib.hid (HBK6.out.trans ((hbq.trans (hb7.mono hbq.size)).mono HBK6.out.size))
          clear hb7 hbq k0 k2
          go_wp2_with fail
          go_roundg (gk - 1)
          case measure => omega
          case rel => exact ⟨k' + 1 + 1, by omega, by omega, by go_num, HK7.out, HK76.out⟩
        · have hd2 : decide ((k : Int) < (c : Int)) = false := decide_eq_false (by omega)
          have hee : ((c : Int) == (c : Int)) = true := by simp
          go_wp2_with fail
          go_ret
          exact ⟨rfl, HBK.out⟩
    | succ g0 =>
      have hin : i < K1 := by omega
      have hd : decide ((i : Int) < (K1 : Int)) = true := decide_eq_true (by omega)
      have hb1 : (0 : Int) ≤ (i : Int) := by omega
      have hb2 : (i : Int) < (K1 : Int) := by omega
      obtain ⟨m, hm⟩ : ∃ m, l[i]? = some m := ⟨_, List.getElem?_eq_getElem (show i < l.length by have := HK1.out; omega)⟩
      obtain ⟨lb, lo, rfl⟩ := row_open H1.out HK1.out (by omega)
      have hM := H1.out
      rw [← HK1.out] at hM
      have HMM := Lib.hid (fun (W : World) (hb : Below w.heap.size w W) (k : Nat) (x : MsgV) (hx : l[k]? = some x) => (hM.keep (Same.below hb)).one hx)
      have HSUB := Lib.hid (fun (W : World) (hb : Below w.heap.size w W) => msgs_sub (hM.keep (Same.below hb)) hm)
      have HZ := Lib.hid (Z1.out m (List.mem_of_getElem? hm))
      obtain ⟨pv, k0, k1, k2, k3, M1⟩ := HMM.out _ HBW.out i m hm
      rw [← Nat.add_assoc] at k1 k2 k3
      obtain ⟨vv, hpe, ⟨⟨_, pa, pc, hps, _⟩, _⟩⟩ := M1
      have hpv : pv = .slice pa m.pay.length pc := by
        injection hpe with hpe
        have : pv = vv := by simpa using hpe
        rw [this, hps]
      subst hpv
      have hstep := count_step (q := fun m => matchT f m.topic) hm
      have HST := Lib.hid hstep
      have HMI := Lib.hid hm
      obtain ⟨x2, hx2⟩ : ∃ x2, wr.alloc (.cells #[.string m.topic, .slice pa m.pay.length pc, .int .i64 m.qos, .bool m.ret] 30) = x2 := ⟨_, rfl⟩
      have go2 : x2.heap[wr.heap.size]? = some (.cells #[.string m.topic, .slice pa m.pay.length pc, .int .i64 m.qos, .bool m.ret] 30 (0, 0)) := by rw [← hx2]; exact (MapKept.heap_alloc wr _).1
      have hbx2 : Below wr.heap.size wr x2 := by rw [← hx2]; exact (Below.refl _ _).alloc (Nat.le_refl _) _
      have HBB := Lib.hid (HBW.out.trans (hbx2.mono HBW.out.size))
      have HBC := Lib.hid (HBV.out.trans (hbx2.mono HBV.out.size))
      have m0 : x2.cell? ⟨wr.heap.size, 0, none⟩ = some (.string m.topic) := cell4 go2 0 _ rfl
      have m2 : x2.cell? ⟨wr.heap.size, 2, none⟩ = some (.int .i64 m.qos) := cell4 go2 2 _ rfl
      clear hM hm hstep hpe hps go2 hbx2
      go_wp2_with fail
      refine (check_any m.topic x2 (by have := HZ.out.1; omega)).mono ?_
      rintro e x3 ⟨rfl, hb3⟩
      have c0 := cell_below hb3 m0
      have c2 := cell_below hb3 m2
      have HBD := Lib.hid (HBB.out.trans (hb3.mono HBB.out.size))
      have HBE := Lib.hid (HBC.out.trans (hb3.mono HBC.out.size))
      clear hb3 m0 m2 k0 k1 k2 k3
      have hno : taken m = false → c + lastCount (fun m => matchT f m.topic) (l.drop (i + 1)) = K2 := fun h => by
        have h1 := HCC.out
        rw [HST.out, h] at h1
        simpa using h1
      have HNO := Lib.hid hno
      clear hno
      by_cases hck : chk m.topic = 0
      case neg =>
        have hq : (chk m.topic != 0) = true := by rw [bne_iff_ne]; exact hck
        have ht : taken m = false := by unfold taken; simp [hck]
        have HT := Lib.hid (HNO.out ht)
        clear ht hck
        go_wp2_with fail
        go_roundg g0
        case measure => omega
        case rel => exact ⟨i + 1, c, by omega, by go_num, rfl, HT.out, HBD.out, HBE.out⟩
      have hq : (chk m.topic != 0) = false := by rw [bne_eq_false_iff_eq]; exact hck
      by_cases hq0 : m.qos < 0
      · have d1 : decide (m.qos < 0) = true := decide_eq_true hq0
        have ht : taken m = false := by unfold taken; simp; omega
        have HT := Lib.hid (HNO.out ht)
        clear ht hck
        go_wp2_with fail
        go_roundg g0
        case measure => omega
        case rel => exact ⟨i + 1, c, by omega, by go_num, rfl, HT.out, HBD.out, HBE.out⟩
      have d1 : decide (m.qos < 0) = false := decide_eq_false hq0
      by_cases hq2 : 2 < m.qos
      · have d2 : decide (2 < m.qos) = true := decide_eq_true hq2
        have ht : taken m = false := by unfold taken; simp; omega
        have HT := Lib.hid (HNO.out ht)
        clear ht hck
        go_wp2_with fail
        go_roundg g0
        case measure => omega
        case rel => exact ⟨i + 1, c, by omega, by go_num, rfl, HT.out, HBD.out, HBE.out⟩
      have d2 : decide (2 < m.qos) = false := decide_eq_false hq2
      have htk : taken m = true := by unfold taken; simp; omega
      have HTK := Lib.hid htk
      have HCK := Lib.hid hck
      obtain ⟨ob, hob⟩ : ∃ ob, wr.heap.size = ob := ⟨_, rfl⟩
      have hobl : ob < x3.heap.size := World.block_lt_of_cell? x3 _ (hob ▸ c0)
      have HC0 := Lib.hid (show ∀ W : World, Below x3.heap.size x3 W → W.cell? ⟨ob, 0, none⟩ = some (.string m.topic) from fun W hb => cell_below hb (hob ▸ c0))
      rw [hob] at c0 c2 ⊢
      clear hck htk hob
      go_wp2_with fail
      go_loopg [12, 13] (K1 - (i + 1)) (fun g i12 i13 wr => ∃ k : Nat, i + 1 + k + g = K1 ∧ i13 = .int .i64 ((i + 1 + k : Nat) : Int) ∧ i12 = .bool (!(later m ((l.drop (i + 1)).take k))) ∧ Below x3.heap.size x3 wr)
      case atStart => exact ⟨0, by omega, by go_num, by simp [later_nil], Below.refl _ _⟩
      case round =>
        obtain ⟨k, hkg, rfl, rfl, hbi⟩ := hrel
        have HBI := Lib.hid hbi
        clear hbi
        by_cases hke : i + 1 + k = K1
        · have hd2 : decide (((i + 1 + k : Nat) : Int) < (K1 : Int)) = false := decide_eq_false (by omega)
          have htake : (l.drop (i + 1)).take k = l.drop (i + 1) := List.take_of_length_le (by rw [List.length_drop]; have := HK1.out; omega)
          rw [htake]
          have hlt := later_taken HCK.out (l.drop (i + 1))
          have HBD2 := Lib.hid (HBD.out.trans (HBI.out.mono HBD.out.size))
          have HBE2 := Lib.hid (HBE.out.trans (HBI.out.mono HBE.out.size))
          have c0' := HC0.out _ HBI.out
          clear htake
          cases hlat : later m (l.drop (i + 1)) with
          | true =>
            have hfin : c + lastCount (fun m => matchT f m.topic) (l.drop (i + 1)) = K2 := by
              have h1 := HCC.out
              rw [HST.out, ← hlt, hlat] at h1
              simpa using h1
            have HFIN := Lib.hid hfin
            clear hfin hlt hlat
            simp only [Bool.not_true]
            go_wp2_with fail
            go_roundg g0
            case measure => omega
            case rel => exact ⟨i + 1, c, by omega, by go_num, rfl, HFIN.out, HBD2.out, HBE2.out⟩
          | false =>
            rw [hlat] at hlt
            have hcnt : c + ((if matchT f m.topic = true then 1 else 0) + lastCount (fun m => matchT f m.topic) (l.drop (i + 1))) = K2 := by
              have h1 := HCC.out
              rw [HST.out, ← hlt, HTK.out] at h1
              simpa using h1
            have HCNT := Lib.hid hcnt
            have HLT := Lib.hid hlt
            clear hlt hlat hcnt
            simp only [Bool.not_false]
            go_wp2_with fail
            refine (match_any f m.topic _ (by omega) (by have := HZ.out.1; omega)).mono ?_
            rintro e x5 ⟨rfl, hb5⟩
            have HBD3 := Lib.hid (HBD2.out.trans (hb5.mono HBD2.out.size))
            have HBE3 := Lib.hid (HBE2.out.trans (hb5.mono HBE2.out.size))
            clear hb5 c0'
            cases hmt : matchT f m.topic with
            | false =>
              have hfin : c + lastCount (fun m => matchT f m.topic) (l.drop (i + 1)) = K2 := by
                have h1 := HCNT.out
                rw [hmt] at h1
                simpa using h1
              have HFIN := Lib.hid hfin
              clear hfin hmt
              go_wp2_with fail
              go_roundg g0
              case measure => omega
              case rel => exact ⟨i + 1, c, by omega, by go_num, rfl, HFIN.out, HBD3.out, HBE3.out⟩
            | true =>
              have hfin : c + 1 + lastCount (fun m => matchT f m.topic) (l.drop (i + 1)) = K2 := by
                have h1 := HCNT.out
                rw [hmt] at h1
                simp only [if_true] at h1
                omega
              have hmem := HLAST.out i m HMI.out HTK.out HLT.out.symm hmt
              have HFIN := Lib.hid hfin
              have HMEM := Lib.hid hmem
              have hcb : c + 1 ≤ K2 := by omega
              clear hfin hmt hmem
              go_wp2_with fail
              go_loopg [14, 15] K2 (fun g i14 i15 wr => ∃ (k : Nat) (c14 : Bool), k + g = K2 ∧ i15 = .int .i64 (k : Nat) ∧ i14 = .bool c14 ∧ (c14 = true ↔ m ∈ FD.take k) ∧ Below w.heap.size w wr ∧ Below w6.heap.size w6 wr)
              case atStart => exact ⟨0, false, by omega, rfl, rfl, by simp, HBD3.out, HBE3.out⟩
              case round =>
                obtain ⟨k, c14, hkg, rfl, rfl, hiff, hbk, hbk6⟩ := hrel
                have HIFF := Lib.hid hiff
                have HBK := Lib.hid hbk
                have HBK6 := Lib.hid hbk6
                clear hiff hbk hbk6
                by_cases hkk : k = K2
                · subst hkk
                  have hd3 : decide ((k : Int) < (k : Int)) = false := decide_eq_false (by omega)
                  obtain rfl : c14 = true := HIFF.out.2 (by rw [List.take_of_length_le (by have := HK2.out; omega)]; exact HMEM.out)
                  go_wp2_with fail
                  go_roundg g0
                  case measure => omega
                  case rel => exact ⟨i + 1, c + 1, by omega, by go_num, by go_num, HFIN.out, HBK.out, HBK6.out⟩
                · have hd3 : decide ((k : Int) < (K2 : Int)) = true := decide_eq_true (by omega)
                  obtain ⟨y, g1⟩ : ∃ y, FD[k]? = some y := ⟨_, List.getElem?_eq_getElem (show k < FD.length by have := HK2.out; omega)⟩
                  have hstep2 : ∀ b : Bool, (b = true ↔ (c14 = true ∨ y = m)) → (b = true ↔ m ∈ FD.take (k + 1)) := fun b hb => by
                    rw [hb, List.take_add_one, g1, List.mem_append, HIFF.out]
                    simp only [Option.toList_some, List.mem_singleton]
                    exact ⟨fun h => h.imp id Eq.symm, fun h => h.imp id Eq.symm⟩
                  have HST2 := Lib.hid hstep2
                  clear hstep2
                  cases c14 with
                  | true =>
                    clear g1
                    go_wp2_with fail
                    go_quiet (fail)
                    have hx1 := HBK.out.trans ((below_drew wr nq).mono HBK.out.size)
                    have hx2 := HBK6.out.trans ((below_drew wr nq).mono HBK6.out.size)
                    have HX1 := Lib.hid hx1
                    have HX2 := Lib.hid hx2
                    clear hx1 hx2
                    generalize wr.drewN nq = V at HX1 HX2 ⊢
                    go_wp2_with fail
                    go_roundg (gk - 1)
                    case measure => omega
                    case rel => exact ⟨k + 1, true, by omega, by go_num, rfl, HST2.out true (by simp), HX1.out, HX2.out⟩
                  | false =>
                    have hM := HM6.out
                    rw [← HK2.out] at hM
                    obtain ⟨fb, fo, rfl⟩ := row_open HM6.out HK2.out (by omega)
                    have hS1 := msgs_sub (hM.keep (Same.below HBK6.out)) g1
                    have hS2 := HSUB.out _ HBK.out
                    have hyp := HMF.out y (List.mem_of_getElem? g1)
                    have HCALL := Lib.hid (fun (k : Nat) => sameMsgs_any (hS1.keep (Same.below (below_drew wr k))) (hS2.keep (Same.below (below_drew wr k))) (by simp) (fun z hz => by simp at hz; subst hz; omega))
                    have hwk : IntKind.i64.wrap ((k : Int) + 1) = (k : Int) + 1 := by simp [IntKind.wrap, IntKind.bits, IntKind.signed]; omega
                    have hwi : IntKind.i64.wrap ((i : Int) + 1) = (i : Int) + 1 := by simp [IntKind.wrap, IntKind.bits, IntKind.signed]; omega
                    have hbk1 : (0 : Int) ≤ (k : Int) := by omega
                    have hbk2 : (k : Int) ≤ (k : Int) + 1 := by omega
                    have hbk3 : (k : Int) + 1 ≤ (C2 : Int) := by omega
                    have hbi1 : (0 : Int) ≤ (i : Int) := by omega
                    have hbi2 : (i : Int) ≤ (i : Int) + 1 := by omega
                    have hbi3 : (i : Int) + 1 ≤ (C1 : Int) := by omega
                    clear hM hS1 hS2 g1
                    go_wp2_with fail
                    go_still_tail 12, (by kernel_rfl)
                    change wpList _ _ _ _ _ wr.drew
                    have hbq := (below_drew wr 1)
                    change Below _ _ wr.drew at hbq
                    go_wp2_with fail
                    refine (HCALL.out 1).mono ?_
                    rintro e V ⟨bb, rfl, hbb, hb7⟩
                    have hbb2 : bb = true ↔ y = m := by rw [hbb]; simp
                    have HBB := Lib.hid hbb2
                    have HX1 := Lib.hid (HBK.out.trans ((hbq.trans (hb7.mono hbq.size)).mono HBK.out.size))
                    have HX2 := Lib.hid (HBK6.out.trans ((hbq.trans (hb7.mono hbq.size)).mono HBK6.out.size))
                    clear hb7 hbq hbb hbb2
                    go_wp2_with fail
                    go_roundg (gk - 1)
                    case measure => omega
                    case rel => exact ⟨k + 1, bb, by omega, by go_num, rfl, HST2.out bb (by rw [HBB.out]; simp), HX1.out, HX2.out⟩
        · have hd2 : decide (((i + 1 + k : Nat) : Int) < (K1 : Int)) = true := decide_eq_true (by omega)
          obtain ⟨x, hx⟩ : ∃ x, l[i + 1 + k]? = some x := ⟨_, List.getElem?_eq_getElem (show i + 1 + k < l.length by have := HK1.out; omega)⟩
          have htk1 : (l.drop (i + 1)).take (k + 1) = (l.drop (i + 1)).take k ++ [x] := by
            rw [List.take_add_one, List.getElem?_drop, hx]; rfl
          have hla : later m ((l.drop (i + 1)).take (k + 1)) = (later m ((l.drop (i + 1)).take k) || (decide (x.topic = m.topic) && (decide (0 ≤ x.qos) && decide (x.qos ≤ 2)))) := by rw [htk1, later_app]
          have HLA := Lib.hid hla
          obtain ⟨L, hL⟩ : ∃ L, later m ((l.drop (i + 1)).take k) = L := ⟨_, rfl⟩
          have HLL := Lib.hid hL
          rw [hL]
          obtain ⟨_, p0, _, p2, _, _⟩ := HMM.out _ (HBD.out.trans (HBI.out.mono HBD.out.size)) _ x hx
          rw [← Nat.add_assoc] at p2
          have c0' := HC0.out _ HBI.out
          obtain ⟨K3, hK3⟩ : ∃ K3, i + 1 + k = K3 := ⟨_, rfl⟩
          have HK3 := Lib.hid hK3
          have hq1 : (0 : Int) ≤ (K3 : Int) := by omega
          have hq2' : (K3 : Int) < (K1 : Int) := by omega
          rw [hK3] at p0 p2 hd2 ⊢
          have c2' : wr.cell? ⟨ob, 2, none⟩ = wr.cell? ⟨ob, 2, none⟩ := rfl
          clear hx htk1 hla hL c2' hK3
          have fin : ∀ b : Bool, b = (!(L || (decide (x.topic = m.topic) && (decide (0 ≤ x.qos) && decide (x.qos ≤ 2))))) → b = (!(later m ((l.drop (i + 1)).take (k + 1)))) := fun b hb => by rw [hb, HLA.out, HLL.out]
          have FIN := Lib.hid fin
          clear fin
          by_cases hL1 : L = true
          · subst hL1
            simp only [Bool.not_true]
            clear p0 p2 c0'
            go_wp2_with fail
            go_quiet (fail)
            have hx := HBI.out.trans ((below_drew wr nq).mono HBI.out.size)
            have HX := Lib.hid hx
            clear hx
            generalize wr.drewN nq = V at HX ⊢
            go_wp2_with fail
            go_roundg (gk - 1)
            case measure => omega
            case rel => exact ⟨k + 1, by have := HK3.out; omega, by have := HK3.out; go_num, by rw [FIN.out false (by simp)], HX.out⟩
          · obtain rfl : L = false := by simpa using hL1
            simp only [Bool.not_false]
            by_cases hxm : x.topic = m.topic
            · have e1 : (x.topic.toList == m.topic.toList) = true := by rw [hxm]; simp
              by_cases hx0 : 0 ≤ x.qos
              · have e2 : decide (0 ≤ x.qos) = true := decide_eq_true hx0
                by_cases hx2 : x.qos ≤ 2
                · have e3 : decide (x.qos ≤ 2) = true := decide_eq_true hx2
                  have hres := FIN.out false (by simp [hxm, hx0, hx2])
                  have HRES := Lib.hid hres
                  clear hres hL1
                  go_wp2_with fail
                  go_quiet (fail)
                  have hx := HBI.out.trans ((below_drew wr nq).mono HBI.out.size)
                  have HX := Lib.hid hx
                  clear hx
                  generalize wr.drewN nq = V at HX ⊢
                  go_wp2_with fail
                  go_roundg (gk - 1)
                  case measure => omega
                  case rel => exact ⟨k + 1, by have := HK3.out; omega, by have := HK3.out; go_num, by rw [HRES.out], HX.out⟩
                · have e3 : decide (x.qos ≤ 2) = false := decide_eq_false hx2
                  have hres := FIN.out true (by simp [hx2])
                  have HRES := Lib.hid hres
                  clear hres hL1
                  go_wp2_with fail
                  go_quiet (fail)
                  have hx := HBI.out.trans ((below_drew wr nq).mono HBI.out.size)
                  have HX := Lib.hid hx
                  clear hx
                  generalize wr.drewN nq = V at HX ⊢
                  go_wp2_with fail
                  go_roundg (gk - 1)
                  case measure => omega
                  case rel => exact ⟨k + 1, by have := HK3.out; omega, by have := HK3.out; go_num, by rw [HRES.out], HX.out⟩
              · have e2 : decide (0 ≤ x.qos) = false := decide_eq_false hx0
                have hres := FIN.out true (by simp [hx0])
                have HRES := Lib.hid hres
                clear hres hL1
                go_wp2_with fail
                go_quiet (fail)
                have hx := HBI.out.trans ((below_drew wr nq).mono HBI.out.size)
                have HX := Lib.hid hx
                clear hx
                generalize wr.drewN nq = V at HX ⊢
                go_wp2_with fail
                go_roundg (gk - 1)
                case measure => omega
                case rel => exact ⟨k + 1, by have := HK3.out; omega, by have := HK3.out; go_num, by rw [HRES.out], HX.out⟩
            · have hne2 : x.topic.toList ≠ m.topic.toList := fun e => hxm (ba_ext (by rwa [Lib.toList_data, Lib.toList_data] at e))
              have e1 : (x.topic.toList == m.topic.toList) = false := by rw [beq_eq_false_iff_ne]; exact hne2
              have hres := FIN.out true (by simp [hxm])
              have HRES := Lib.hid hres
              clear hres hL1 hne2
              go_wp2_with fail
              go_quiet (fail)
              have hx := HBI.out.trans ((below_drew wr nq).mono HBI.out.size)
              have HX := Lib.hid hx
              clear hx
              generalize wr.drewN nq = V at HX ⊢
              go_wp2_with fail
              go_roundg (gk - 1)
              case measure => omega
              case rel => exact ⟨k + 1, by have := HK3.out; omega, by have := HK3.out; go_num, by rw [HRES.out], HX.out⟩

set_option maxRecDepth 100000 in
theorem lifted (os : Os) (started : os.Started) (H : Type) (enc : TypeId × Value → H) :
    ReturnsInHanded {} Try.checked os 4 .any (Rows.rettrieFindsSpec.pre6 enc Try.prog Try.f4 Rows.rettrieFindsRow.domain false) (Rows.rettrieFindsSpec.post enc Try.prog Try.f4 false true false false) := by
  refine returnsInHanded_of_change_sized (C := Try.checked) own started (by kernel_rfl) Try.func4
    (ChangeSpec.witness6 (enc := enc) (C := Try.checked) false ⟨#[], #[.slice none 0 0, .string ⟨#[]⟩], []⟩ 8 (by kernel_rfl) (by kernel_rfl) (by kernel_rfl) (by kernel_rfl)) ?_
  intro W base args ds gs before hval0 hW hcnd hsz0 _
  have hval : ∀ (j : Nat) t v, Try.f4.params[j]? = some t → args[j]? = some v → Value.okWide Try.prog W .any base t v := hval0
  have hW' := hW
  obtain ⟨p, q, hA0, hV, rfl, hfz, hnd⟩ := hW
  have hA : DataW.TrodAll enc Try.prog W 0 (fun _ => true) true Try.f4.params.toList args.toList ds p := hA0
  have hsz : (DataW.weightsEach Try.prog (Try.f4.params.toList ++ Rows.rettrieFindsSpec.plain.varTypes Try.prog) (ds ++ gs)).all (· ≤ reachBytes) = true := hsz0
  rw [Try.params4] at hA hval hsz
  obtain ⟨v0, vs0, d0, ds0, p0, q0, hargs, rfl, rfl, h0, r0⟩ := trodAll_cons hA
  obtain ⟨v1, vs1, d1, ds1, p1, q1, rfl, rfl, rfl, h1, r1⟩ := trodAll_cons r0
  obtain ⟨rfl, rfl, rfl⟩ := trodAll_nil r1
  obtain rfl : args = #[v0, v1] := by cases args; simp_all
  obtain ⟨rfl, rfl⟩ := trodVars_none hV
  obtain ⟨l, M0, S0⟩ := open_msgs (okWide_slice Try.underlying22 (hval 0 22 v0 rfl rfl)) h0
  obtain ⟨f, rfl, rfl, rfl, w1⟩ := open_string Try.underlying9 (hval 1 9 v1 rfl rfl) h1
  have t0 := (S0 (fun k hk => of_decide_eq_true (List.all_eq_true.1 hsz _ (DataW.weights_mem_each (j := 0) (t := 22) rfl rfl k hk)))).2
  have t1 : f.data.toList.length ≤ reachBytes := sized_string hsz (j := 1) (t := 9) rfl rfl
  clear hA0 hval0 hsz0
  simp only [List.append_nil, List.nil_append] at hW'
  have hr : reachBytes ≤ 200000000000000 := by decide
  refine (walk l f v0 W M0 (fun m hm => by have := t0 m hm; omega) (by simp at t1; omega)).mono fun e W' ⟨he, hg⟩ => ?_
  subst he
  have hshut := (trodAll_cons_mk (again msgs_readable msgs_row h0 hg) (trodAll_cons_mk (shut_string Try.underlying9 w1) trodAll_mk0))
  simp only [List.append_nil, List.nil_append] at hshut
  exact ⟨_, rfl, law_post hW' hg (fun _ => (trodAll_cons_mk (shut_bool Try.underlying4 _) trodAll_mk0)) hshut rfl⟩

theorem over : Rows.rettrieFindsRow.holds Try.pinned (OpenSpec.ofChange Rows.rettrieFindsSpec) :=
  OpenClaim.holds_of_wide 4 Try.f4 rfl rfl rfl rfl rfl rfl rfl ⟨rfl, rfl, rfl, rfl, rfl⟩ rfl rfl rfl rfl rfl (by kernel_rfl) Try.func4 (by kernel_rfl)
    (of_decide_eq_true (by kernel_rfl)) (by unfold Func.isWrapper; first | (rw [if_pos (by decide +kernel)]; kernel_rfl) | (rw [if_neg (by decide +kernel)]; exact ⟨rfl, rfl⟩))
    (fun os started H enc _ => lifted os started H enc)

theorem proved : Rows.RettrieFindsSaid :=
  over
#print axioms proved
end Go.Proofs.Ytgnffkahlniehaa.rettrieFinds
