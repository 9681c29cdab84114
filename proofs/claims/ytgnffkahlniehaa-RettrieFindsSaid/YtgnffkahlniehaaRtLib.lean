/- Proved here: rettrie.byLevel; slices.BinarySearchFunc by it; slices.Equal of levels. -/
import Derived.Test.YtgnffkahlniehaaRtMem
import Derived.Test.YtgnffkahlniehaaTpAll
import Derived.WalkKit
import Derived.BigQuiet
import Derived.Deep.DeepCutAuto
import Derived.Deep.QuietTactic
import Derived.IntWalk
import Derived.Lib.Hide
import Derived.Outline
namespace Go.Proofs.Ytgnffkahlniehaa
open Go Go.RowKit Go.Proofs.Gs Go.Proofs.Tri Go.Proofs.Rt

theorem drewN_two (w : World) (a b : Nat) : ∃ m, (w.drewN a).drewN b = w.drewN m := ⟨a + b, by simp [World.drewN, Nat.add_assoc]⟩

theorem byLevel_any {F : Nat → Prop} {w : World} {b : Nat} {k : Tree} {x : ByteArray} {xs : List ByteArray} (h : NodeAt F w b k) (hx : k.lv = x :: xs) (s : ByteArray) :
    Calls Try.prog 47 #[.pointer (some ⟨b, 0, none⟩), .string s] w fun e w' => e = .returned (.int .i64 (Tp.cmpB x s)) ∧ w' = w := by
  obtain ⟨sv, mv, kv, bs, O⟩ := h.open
  have hs := O.hs
  rw [hx] at hs
  obtain ⟨b0, off, cap, rfl, h1, h2, h3, h4⟩ := Tp.StrsAt.open hs (by simp)
  have c0 := O.c0
  have c1 := h4 0 x rfl
  rw [Nat.add_zero] at c1
  have hpos : 0 < (x :: xs).length := by simp
  clear O hs h4
  generalize (x :: xs).length = m at c0 hpos h1
  have hp2 : (0 : Int) < (m : Int) := by omega
  go_enter Try.func47, Try.ntmps47
  go_wp2_with fail
  refine (cmpStr_any _ _ _).mono ?_
  rintro e w' ⟨rfl, rfl⟩
  go_wp2_with fail
  go_ret
  exact ⟨rfl, rfl⟩

theorem call_byLevel (args : Array Value) (W : World) : (callFunc 47 args).run Try.prog W = .ok (.enter 47 args) W := by go_simp

theorem kidAt_isSome {p : ByteArray} {ks : List Tree} : (kidAt ltB p ks).isSome = true ↔ ∃ k xs, ks[place ltB p ks]? = some k ∧ k.lv = p :: xs := by
  unfold kidAt
  cases h : ks[place ltB p ks]? with
  | none => simp
  | some k =>
    simp only
    constructor
    · intro hh
      split at hh
      · rename_i e
        cases hl : k.lv with
        | nil => rw [hl] at e; simp at e
        | cons y ys => rw [hl] at e; simp at e; subst e; exact ⟨k, ys, rfl, hl⟩
      · simp at hh
    · rintro ⟨k', xs, e, hl⟩
      injection e with e; subst e
      rw [if_pos (by rw [hl]; rfl)]
      rfl

set_option maxHeartbeats 2000000 in
set_option maxRecDepth 100000 in
theorem bsf_any {F : Nat → Prop} {w : World} {kv : Value} {bs : List Nat} {ks : List Tree} {p : ByteArray} (hk : RowAt w 1 kv bs.length (bs.map ptrV)) (hl : bs.length = ks.length) (hn : ∀ (i b : Nat) (k : Tree), bs[i]? = some b → ks[i]? = some k → NodeAt F w b k)
    (hf : Forest ltB ks) (hm : ks.length ≤ 1000000) :
    Calls Try.prog 46 #[kv, .string p, .func (.func 47) #[] #[]] w
      fun e w' => e = .returned (.tuple #[.int .i64 (place ltB p ks), .bool (kidAt ltB p ks).isSome]) ∧ w' = w := by
  have hpl := place_le p ks
  -- one look
  have look : ∀ i, i < ks.length → ∃ b x, (∀ b0 off, (∀ j u, (bs.map ptrV)[j]? = some u → w.cell? ⟨b0, off + j, none⟩ = some u) → w.cell? ⟨b0, off + i, none⟩ = some (.pointer (some ⟨b, 0, none⟩))) ∧
      Calls Try.prog 47 #[.pointer (some ⟨b, 0, none⟩), .string p] w (fun e w' => e = .returned (.int .i64 (Tp.cmpB x p)) ∧ w' = w) ∧ (ltB x p = true ↔ i < place ltB p ks) ∧ (i = place ltB p ks → (x = p ↔ (kidAt ltB p ks).isSome = true)) := by
    intro i hi
    have hkg := List.getElem?_eq_getElem hi
    have hbg : bs[i]? = some bs[i] := List.getElem?_eq_getElem (by omega)
    obtain ⟨x, xs, hx, hlt⟩ := place_iff (p := p) hf hkg
    refine ⟨bs[i], x, fun b0 off hc => hc i _ (by rw [List.getElem?_map, hbg]; rfl), byLevel_any (hn i _ _ hbg hkg) hx p, hlt, fun e => ?_⟩
    rw [kidAt_isSome, ← e]
    constructor
    · intro hxp; subst hxp; exact ⟨_, xs, hkg, hx⟩
    · rintro ⟨k, ys, h1, h2⟩
      rw [hkg] at h1; injection h1 with h1
      rw [h1, h2] at hx; injection hx with hx _; exact hx.symm
  have HL := Lib.hid look
  have HF := Lib.hid hf
  have HM := Lib.hid hn
  have hcallf := call_byLevel
  rcases RowAt.cases hk with ⟨hz, _, a, cap, rfl, hcm⟩ | ⟨hpos, b0, off, cap, rfl, hnc, hcm, hb, hc⟩
  · have hks0 : ks = [] := List.eq_nil_of_length_eq_zero (by omega)
    subst hks0
    have hp0 : place ltB p ([] : List Tree) = 0 := rfl
    have hk0 : (kidAt ltB p ([] : List Tree)).isSome = false := rfl
    rw [hp0, hk0]
    clear look hk hf hn hpl hp0 hk0 HL HF HM
    go_enter Try.func46, Try.ntmps46
    go_wp2_with fail
    go_loopg [9, 10, 11] 0 (fun g i j h wr => i = .int .i64 0 ∧ j = .int .i64 0 ∧ wr = w)
    case atStart => exact ⟨rfl, rfl, rfl⟩
    case round =>
      obtain ⟨rfl, rfl, rfl⟩ := hrel
      go_wp2_with fail
      go_ret2
      exact ⟨rfl, rfl⟩
  · rw [hl] at hpos hnc
    obtain ⟨n, hnn⟩ : ∃ n, ks.length = n := ⟨_, rfl⟩
    have hbn : bs.length = n := by omega
    obtain ⟨q, hq⟩ : ∃ q, place ltB p ks = q := ⟨_, rfl⟩
    obtain ⟨r, hr⟩ : ∃ r, (kidAt ltB p ks).isSome = r := ⟨_, rfl⟩
    have look2 : ∀ i, i < n → ∃ b x, w.cell? ⟨b0, off + i, none⟩ = some (.pointer (some ⟨b, 0, none⟩)) ∧
      Calls Try.prog 47 #[.pointer (some ⟨b, 0, none⟩), .string p] w (fun e w' => e = .returned (.int .i64 (Tp.cmpB x p)) ∧ w' = w) ∧ (Tp.cmpB x p < 0 ↔ i < q) ∧ (i = q → (Tp.cmpB x p = 0 ↔ r = true)) := by
      intro i hi
      obtain ⟨b, x, h1, h2, h3, h4⟩ := HL.out i (by omega)
      refine ⟨b, x, h1 b0 off hc, h2, ?_, fun e => ?_⟩
      · rw [← hq, ← h3, ltB_iff]
        have := cmpB_three x p
        omega
      · rw [← hr, ← h4 (by omega), Tp.cmpB_zero]
    rw [hbn, hq, hr]
    rw [hnn] at hpos hnc hm hpl
    rw [hq] at hpl
    have HQ0 : r = true → q < n := by
      intro e
      rw [← hr] at e
      obtain ⟨k, xs, h1, _⟩ := kidAt_isSome.1 e
      have := (List.getElem?_eq_some_iff.1 h1).1
      omega
    have HQ := Lib.hid HQ0
    have HL2 := Lib.hid look2
    clear look look2 hk hf hn HL HF HM hc hq hr HQ0 hl hnn hbn
    go_enter Try.func46, Try.ntmps46
    go_wp2_with fail
    go_loopg [9, 10, 11] n (fun g i j h wr => ∃ a c : Nat, i = .int .i64 (a : Nat) ∧ j = .int .i64 (c : Nat) ∧ a ≤ q ∧ q ≤ c ∧ c ≤ n ∧ c - a ≤ g ∧ wr = w)
    case atStart => exact ⟨0, n, rfl, rfl, Nat.zero_le _, hpl, Nat.le_refl _, by omega, rfl⟩
    case round =>
      obtain ⟨a, c, rfl, rfl, h1, h2, h3, h4, rfl⟩ := hrel
      by_cases hac : a < c
      · have hd : decide ((a : Int) < (c : Int)) = true := decide_eq_true (by omega)
        have hm1 : a ≤ (a + c) / 2 := by omega
        have hm2 : (a + c) / 2 < c := by omega
        obtain ⟨b, x, c1, hcall, hq1, -⟩ := HL2.out ((a + c) / 2) (by omega)
        have HC := Lib.hid hcall
        have hb1 : ((a : Int) + (c : Int)) / 2 < (n : Int) := by omega
        have hb2 : (0 : Int) ≤ ((a : Int) + (c : Int)) / 2 := by omega
        have hb3 : (((a : Int) + (c : Int)) / 2).toNat = (a + c) / 2 := by omega
        have hb4 : (a + c) / 2 < n := by omega
        generalize Tp.cmpB x p = v at hq1 HC
        clear hcall
        by_cases hlt : (a + c) / 2 < q
        · have hv : decide (v < 0) = true := decide_eq_true (hq1.2 hlt)
          clear hq1
          go_wp2_with fail
          refine HC.out.mono ?_
          rintro e w1 ⟨rfl, rfl⟩
          go_wp2_with fail
          go_roundg (gk - 1)
          case measure => omega
          case rel => exact ⟨(a + c) / 2 + 1, c, by simp, rfl, by omega, h2, h3, by omega, rfl⟩
        · have hv : decide (v < 0) = false := decide_eq_false (fun e => hlt (hq1.1 e))
          clear hq1
          go_wp2_with fail
          refine HC.out.mono ?_
          rintro e w1 ⟨rfl, rfl⟩
          go_wp2_with fail
          go_roundg (gk - 1)
          case measure => omega
          case rel => exact ⟨a, (a + c) / 2, rfl, by simp, h1, by omega, by omega, by omega, rfl⟩
      · have hd : decide ((a : Int) < (c : Int)) = false := decide_eq_false (by omega)
        have ha : a = q := by omega
        have hc : c = q := by omega
        subst ha
        subst hc
        clear h1 h2 hd hac h4 h3 hpl
        by_cases hcn : c < n
        · have hd2 : decide ((c : Int) < (n : Int)) = true := decide_eq_true (by omega)
          obtain ⟨b, x, c1, hcall, -, hq2⟩ := HL2.out c hcn
          have hr := hq2 rfl
          have HC := Lib.hid hcall
          generalize Tp.cmpB x p = v at hr HC
          clear hcall hq2
          cases r with
          | true =>
            have hv : (v == 0) = true := by rw [beq_iff_eq]; exact hr.2 rfl
            clear hr
            go_wp2_with fail
            refine HC.out.mono ?_
            rintro e w1 ⟨rfl, rfl⟩
            go_wp2_with fail
            go_ret2
            exact ⟨rfl, rfl⟩
          | false =>
            have hv : (v == 0) = false := by rw [beq_eq_false_iff_ne]; intro e; exact absurd (hr.1 e) (by simp)
            clear hr
            go_wp2_with fail
            refine HC.out.mono ?_
            rintro e w1 ⟨rfl, rfl⟩
            go_wp2_with fail
            go_ret2
            exact ⟨rfl, rfl⟩
        · have hd2 : decide ((c : Int) < (n : Int)) = false := decide_eq_false (by omega)
          obtain rfl : r = false := by
            cases r with
            | false => rfl
            | true => exact absurd (HQ.out rfl) hcn
          go_wp2_with fail
          go_ret2
          exact ⟨rfl, rfl⟩

set_option maxHeartbeats 2000000 in
set_option maxRecDepth 100000 in
/-- Two lists of levels: the same? -/
theorem equalS_any {w : World} {v1 v2 : Value} {L1 L2 : List ByteArray} (h1 : Tp.StrsAt w v1 L1) (h2 : Tp.StrsAt w v2 L2) (hl1 : L1.length ≤ 1000000001) :
    Calls Try.prog 48 #[v1, v2] w fun e w' => e = .returned (.bool (decide (L1 = L2))) ∧ ∃ m, w' = w.drewN m := by
  by_cases hne : L1.length = L2.length
  · by_cases h0 : L1.length = 0
    · have e1 : L1 = [] := List.eq_nil_of_length_eq_zero h0
      have e2 : L2 = [] := List.eq_nil_of_length_eq_zero (by omega)
      subst e1; subst e2
      obtain ⟨a1, c1, rfl⟩ := Tp.StrsAt.open_nil h1
      obtain ⟨a2, c2, rfl⟩ := Tp.StrsAt.open_nil h2
      clear h1 h2 hne h0
      go_enter Try.func48, Try.ntmps48
      go_wp2_with fail
      go_loopg [5, 13] 0 (fun g x i wr => i = .int .i64 0 ∧ wr = w)
      case atStart => exact ⟨rfl, rfl⟩
      case round =>
        obtain ⟨rfl, rfl⟩ := hrel
        go_wp2_with fail
        go_ret
        exact ⟨rfl, 0, rfl⟩
    · obtain ⟨b1, o1, c1, rfl, p1, p2, p3, p4⟩ := Tp.StrsAt.open h1 (by omega)
      obtain ⟨b2, o2, c2, rfl, q1, q2, q3, q4⟩ := Tp.StrsAt.open h2 (by omega)
      obtain ⟨n, hn⟩ : ∃ n, L1.length = n := ⟨_, rfl⟩
      have hn2 : L2.length = n := by omega
      have HP := Lib.hid p4
      have HQ := Lib.hid q4
      have HN := Lib.hid hn
      have HN2 := Lib.hid hn2
      rw [hn] at p1 hl1 ⊢
      rw [hn2] at q1 ⊢
      clear h1 h2 hne h0 p4 q4 hn hn2 p3 q3
      go_enter Try.func48, Try.ntmps48
      go_wp2_with fail
      go_loopg [5, 13] n (fun g x i wr => ∃ j m : Nat, j + g = n ∧ i = .int .i64 (j : Nat) ∧ L1.take j = L2.take j ∧ wr = w.drewN m)
      case atStart => exact ⟨0, 0, by omega, rfl, rfl, rfl⟩
      case round =>
        obtain ⟨j, m, hj, rfl, heq, rfl⟩ := hrel
        have HE := Lib.hid heq
        clear heq
        cases gk with
        | zero =>
          obtain rfl : j = n := by omega
          have hd : decide ((j : Int) < (j : Int)) = false := decide_eq_false (by omega)
          have hfin : decide (L1 = L2) = true := by
            have := HE.out
            rw [List.take_of_length_le (by have := HN.out; omega), List.take_of_length_le (by have := HN2.out; omega)] at this
            simpa using this
          have HFIN := Lib.hid hfin
          clear hfin
          go_wp2_with fail
          go_ret
          exact ⟨by rw [HFIN.out]; rfl, m, rfl⟩
        | succ gk =>
          have hjn : j < n := by omega
          have hd : decide ((j : Int) < (n : Int)) = true := decide_eq_true (by omega)
          obtain ⟨x, g1⟩ : ∃ x, L1[j]? = some x := ⟨_, List.getElem?_eq_getElem (show j < L1.length by have := HN.out; omega)⟩
          obtain ⟨y, g2⟩ : ∃ y, L2[j]? = some y := ⟨_, List.getElem?_eq_getElem (show j < L2.length by have := HN2.out; omega)⟩
          have k1 := HP.out j _ g1
          have k2 := HQ.out j _ g2
          have hb1 : (0 : Int) ≤ (j : Int) := by omega
          have hb2 : (j : Int) < (n : Int) := by omega
          have HG1 := Lib.hid g1
          have HG2 := Lib.hid g2
          clear g1 g2
          by_cases hxy : x = y
          · have e1 : (x.toList != y.toList) = false := by rw [hxy]; simp
            have e2 : (x.toList == y.toList) = true := by rw [hxy]; simp
            have HXY := Lib.hid hxy
            clear hxy
            go_wp2_with fail
            go_quiet (fail)
            go_wp2_with fail
            go_roundg gk
            case measure => omega
            case rel => exact ⟨j + 1, _, by omega, by go_num, by rw [List.take_add_one, List.take_add_one, HG1.out, HG2.out, HXY.out, HE.out], rfl⟩
          · have hne2 : x.toList ≠ y.toList := fun e => hxy (ba_ext (by rwa [Lib.toList_data, Lib.toList_data] at e))
            have e1 : (x.toList != y.toList) = true := by rw [bne_iff_ne]; exact hne2
            have e2 : (x.toList == y.toList) = false := by rw [beq_eq_false_iff_ne]; exact hne2
            have hfin : decide (L1 = L2) = false := decide_eq_false (fun e => by
              have := HG1.out
              rw [e, HG2.out] at this
              injection this with this
              exact hxy this.symm)
            have HFIN := Lib.hid hfin
            clear hfin hxy hne2
            go_wp2_with fail
            go_quiet (fail)
            go_wp2_with fail
            go_ret
            exact ⟨by rw [HFIN.out]; rfl, drewN_two w _ _⟩
  · have hb : ((L1.length : Int) != (L2.length : Int)) = true := by rw [bne_iff_ne]; omega
    obtain ⟨a1, c1, rfl, -⟩ := h1
    obtain ⟨a2, c2, rfl, -⟩ := h2
    have hfin : decide (L1 = L2) = false := decide_eq_false (fun e => hne (by rw [e]))
    have HFIN := Lib.hid hfin
    clear hfin
    generalize L1.length = n1 at *
    generalize L2.length = n2 at *
    clear hne
    go_enter Try.func48, Try.ntmps48
    go_wp2_with fail
    go_ret
    exact ⟨by rw [HFIN.out]; rfl, 0, rfl⟩
end Go.Proofs.Ytgnffkahlniehaa
