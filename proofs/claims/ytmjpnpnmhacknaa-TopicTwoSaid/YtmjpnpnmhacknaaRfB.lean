/- Proved here: the contracts of the reference's Check and CheckFilter. -/
import Derived.Test.YtmjpnpnmhacknaaRfTextW
namespace Go.Proofs.Ytmjpnpnmhacknaa
open Go.RowKit Go.Proofs.Tp

theorem textE_zero (s : ByteArray) : textE s = 0 ↔ s.size ≠ 0 ∧ isText s = true := by
  unfold textE
  by_cases h : s.size = 0
  · simp [h]
  · by_cases h2 : isText s = true
    · simp [h, h2]
    · simp [h, h2]

theorem textE_50 {s : ByteArray} (h : s.size = 0) : textE s = 50 := by unfold textE; rw [if_pos h]
theorem textE_51 {s : ByteArray} (h : s.size ≠ 0) (h2 : isText s = false) : textE s = 51 := by unfold textE; rw [if_neg h, h2]; rfl
theorem textE_ok {s : ByteArray} (h : s.size ≠ 0) (h2 : isText s = true) : textE s = 0 := by unfold textE; rw [if_neg h, if_pos h2]

set_option maxHeartbeats 400000 in
theorem rfCheck_any (s : ByteArray) (w : World) (hs : s.size ≤ 1000000000) :
    Calls Try.prog 25 #[.string s] w fun e w' => e = .returned (.int .i64 (chk s)) ∧ w = w' := by
  by_cases h0 : s.size = 0
  · have f0 : ((s.size : Int) == 0) = true := by rw [h0]; rfl
    have HF := Lib.hid (show chk s = 50 from by unfold chk; rw [textE_50 h0]; rfl)
    clear h0
    go_enter Try.func25, Try.ntmps25
    go_wp2_with fail
    go_ret
    exact ⟨ret_int HF.out.symm, rfl⟩
  · have f0 : ((s.size : Int) == 0) = false := by rw [beq_eq_false_iff_ne]; omega
    cases ht : isText s with
    | false =>
      have HF := Lib.hid (show chk s = 51 from by unfold chk; rw [textE_51 h0 ht]; rfl)
      have HT := Lib.hid ht
      clear h0 ht
      go_enter Try.func25, Try.ntmps25
      go_wp2_with fail
      refine (rfText_any s _ hs).mono ?_
      rintro e w1 ⟨rfl, rfl⟩
      rw [HT.out]
      go_wp2_with fail
      go_ret
      exact ⟨ret_int HF.out.symm, rfl⟩
    | true =>
      have HT := Lib.hid ht
      have HF := Lib.hid (show chk s = if sign s then 52 else 0 from by unfold chk; rw [textE_ok h0 ht]; rfl)
      clear h0 ht
      cases hg : sign s
      · have HG := Lib.hid hg
        clear hg
        go_enter Try.func25, Try.ntmps25
        go_wp2_with fail
        refine (rfText_any s _ hs).mono ?_
        rintro e w1 ⟨rfl, rfl⟩
        rw [HT.out]
        go_wp2_with fail
        refine (rfSign_any s _ hs).mono ?_
        rintro e w1 ⟨rfl, rfl⟩
        rw [HG.out]
        go_wp2_with fail
        go_ret
        exact ⟨ret_int (by rw [HF.out, HG.out]; rfl), rfl⟩
      · have HG := Lib.hid hg
        clear hg
        go_enter Try.func25, Try.ntmps25
        go_wp2_with fail
        refine (rfText_any s _ hs).mono ?_
        rintro e w1 ⟨rfl, rfl⟩
        rw [HT.out]
        go_wp2_with fail
        refine (rfSign_any s _ hs).mono ?_
        rintro e w1 ⟨rfl, rfl⟩
        rw [HG.out]
        go_wp2_with fail
        go_ret
        exact ⟨ret_int (by rw [HF.out, HG.out]; rfl), rfl⟩

/-- No text among a slice's is greater than the whole. -/
theorem level_size (s x : ByteArray) (k : Nat) (h : (levels s)[k]? = some x) : x.size ≤ s.size := by
  have hj := join_levels s
  have hx : x.data.toList ∈ (levels s).map (·.data.toList) := List.mem_map_of_mem (List.mem_of_getElem? h)
  have key : ∀ (L : List (List UInt8)) (y : List UInt8), y ∈ L → y.length ≤ (Lib.join L [47]).length := by
    intro L
    induction L with
    | nil => intro y hy; simp at hy
    | cons z r ih =>
      intro y hy
      rcases List.mem_cons.1 hy with rfl | hy
      · rw [Lib.join_cons]; simp
      · cases r with
        | nil => simp at hy
        | cons z2 r2 =>
          have := ih y hy
          rw [Lib.join_cons] at this ⊢
          simp only [Lib.joinTail, List.map_cons, List.flatten_cons, List.length_append, List.length_cons, List.length_nil] at this ⊢
          omega
  have := key _ _ hx
  rw [hj] at this
  simpa using this

set_option maxHeartbeats 2000000 in
set_option maxRecDepth 1000000 in
theorem rfCheckFilter_any (s : ByteArray) (w : World) (hs : s.size ≤ 1000000000) :
    Calls Try.prog 32 #[.string s] w fun e w' => e = .returned (.int .i64 (chkF s)) ∧ Below w.heap.size w w' := by
  by_cases h0 : s.size = 0
  · have f0 : ((s.size : Int) == 0) = true := by rw [h0]; rfl
    have HF := Lib.hid (show chkF s = 50 from by unfold chkF; rw [textE_50 h0]; rfl)
    clear h0
    go_enter Try.func32, Try.ntmps32
    go_wp2_with fail
    go_ret
    exact ⟨ret_int HF.out.symm, Below.refl _ _⟩
  have f0 : ((s.size : Int) == 0) = false := by rw [beq_eq_false_iff_ne]; omega
  cases ht : isText s with
  | false =>
    have HF := Lib.hid (show chkF s = 51 from by unfold chkF; rw [textE_51 h0 ht]; rfl)
    have HT := Lib.hid ht
    clear h0 ht
    go_enter Try.func32, Try.ntmps32
    go_wp2_with fail
    refine (rfText_any s _ hs).mono ?_
    rintro e w1 ⟨rfl, rfl⟩
    rw [HT.out]
    go_wp2_with fail
    go_ret
    exact ⟨ret_int HF.out.symm, Below.refl _ _⟩
  | true =>
    have HT := Lib.hid ht
    have HF := Lib.hid (show chkF s = if badLv (levels s) then 52 else 0 from by unfold chkF; rw [textE_ok h0 ht]; rfl)
    clear h0 ht
    have hl := levels_len s hs
    have HSZ := Lib.hid (fun k x => level_size s x k)
    go_enter Try.func32, Try.ntmps32
    go_wp2_with fail
    refine (rfText_any s _ hs).mono ?_
    rintro e w1 ⟨rfl, rfl⟩
    rw [HT.out]
    go_wp2_with fail
    refine (rfLevels_any s _ hs).mono ?_
    rintro e w2 ⟨v, rfl, hown, hb⟩
    obtain ⟨b, off, cap, rfl, hlc, hcm, hbw, hcell⟩ := (StrsAt.of_owns hown).open hl.1
    clear hown
    have HC := Lib.hid hcell
    clear hcell
    generalize levels s = L at *
    obtain ⟨n, hn⟩ : ∃ n, L.length = n := ⟨_, rfl⟩
    have HN := Lib.hid hn
    rw [hn] at hl hlc ⊢
    clear hn
    obtain ⟨hpos, hlen⟩ := hl
    go_wp2_with fail
    go_loopg [4] n (fun g i wr => ∃ k, k + g = n ∧ i = .int .i64 (k : Nat) ∧ Aside (badLv (L.drop k) = badLv L) ∧ w2 = wr)
    case atStart => exact ⟨0, by omega, rfl, rfl, rfl⟩
    case round =>
      obtain ⟨k, hkg, rfl, HI, rfl⟩ := hrel
      have HKG := Lib.hid hkg
      cases gk with
      | zero =>
        have hkz : ¬ ((k : Int) < (n : Int)) := by omega
        have HX := Lib.hid (show badLv L = false from by rw [← HI.out, List.drop_eq_nil_of_le (by rw [HN.out]; omega)]; rfl)
        clear hkg
        go_wp2_with fail
        go_ret
        exact ⟨ret_int (by rw [HF.out, HX.out]; rfl), hb⟩
      | succ g =>
        have hkz : (k : Int) < (n : Int) := by omega
        have hkn : k < n := by omega
        clear hkg
        obtain ⟨x, hx⟩ : ∃ x, L[k]? = some x := ⟨L[k]'(by rw [HN.out]; exact hkn), List.getElem?_eq_getElem _⟩
        have hcx : w2.cell? ⟨b, off + k, none⟩ = some (.string x) := HC.out k x hx
        have hxs : x.size ≤ 1000000000 := Nat.le_trans (HSZ.out k x hx) hs
        have HD := Lib.hid (drop_at hx)
        clear hx
        have HS := Lib.hid (fun W => rfSign_any x W hxs)
        cases hg : sign x with
        | true =>
          have HG := Lib.hid hg
          by_cases hl : 1 < x.size
          · have hlI : (1 : Int) < (x.size : Int) := by omega
            have HX := Lib.hid (show badLv L = true from by rw [← HI.out, HD.out]; exact badLv_stop _ _ (.inl ⟨hg, hl⟩))
            clear hg hl
            go_wp2_with fail
            refine (HS.out _).mono ?_
            rintro e w3 ⟨rfl, rfl⟩
            rw [HG.out]
            go_wp2_with fail
            go_ret
            exact ⟨ret_int (by rw [HF.out, HX.out]; rfl), hb⟩
          have hlI : ¬ ((1 : Int) < (x.size : Int)) := by omega
          by_cases h35 : x.data.toList = [35]
          · have f35 : (x.toList == [35]) = true := by rw [strEq, decide_eq_true h35]
            by_cases hk : k + 1 < n
            · have hkI : (k : Int) + 1 < (n : Int) := by omega
              have hr : L.drop (k + 1) ≠ [] := by rw [Ne, List.drop_eq_nil_iff, HN.out]; omega
              have HX := Lib.hid (show badLv L = true from by rw [← HI.out, HD.out]; exact badLv_stop _ _ (.inr ⟨h35, hr⟩))
              clear hg hl h35 hk hr
              go_wp2_with fail
              refine (HS.out _).mono ?_
              rintro e w3 ⟨rfl, rfl⟩
              rw [HG.out]
              go_wp2_with fail
              go_ret
              exact ⟨ret_int (by rw [HF.out, HX.out]; rfl), hb⟩
            · have hkI : ¬ ((k : Int) + 1 < (n : Int)) := by omega
              have HK := Lib.hid (show badLv (x :: L.drop (k + 1)) = badLv (L.drop (k + 1)) from badLv_keep _ _ (fun _ => by omega) (fun e => by rw [List.drop_eq_nil_iff, HN.out]; omega))
              clear hg hl h35 hk
              go_wp2_with fail
              refine (HS.out _).mono ?_
              rintro e w3 ⟨rfl, rfl⟩
              rw [HG.out]
              go_wp2_with fail
              go_roundg g
              case measure => omega
              case rel => exact ⟨k + 1, by have := HKG.out; omega, by go_num, by show _ = _; rw [← HI.out, HD.out, HK.out], rfl⟩
          · have f35 : (x.toList == [35]) = false := by rw [strEq, decide_eq_false h35]
            have HK := Lib.hid (show badLv (x :: L.drop (k + 1)) = badLv (L.drop (k + 1)) from badLv_keep _ _ (fun _ => by omega) (fun e => absurd e h35))
            clear hg hl h35
            go_wp2_with fail
            refine (HS.out _).mono ?_
            rintro e w3 ⟨rfl, rfl⟩
            rw [HG.out]
            go_wp2_with fail
            go_roundg g
            case measure => omega
            case rel => exact ⟨k + 1, by have := HKG.out; omega, by go_num, by show _ = _; rw [← HI.out, HD.out, HK.out], rfl⟩
        | false =>
          have HG := Lib.hid hg
          have h35 : ¬ x.data.toList = [35] := fun e => by unfold sign at hg; rw [e] at hg; cases hg
          have f35 : (x.toList == [35]) = false := by rw [strEq, decide_eq_false h35]
          have HK := Lib.hid (show badLv (x :: L.drop (k + 1)) = badLv (L.drop (k + 1)) from badLv_keep _ _ (fun e => by rw [hg] at e; cases e) (fun e => absurd e h35))
          clear hg h35
          go_wp2_with fail
          refine (HS.out _).mono ?_
          rintro e w3 ⟨rfl, rfl⟩
          rw [HG.out]
          go_wp2_with fail
          go_roundg g
          case measure => omega
          case rel => exact ⟨k + 1, by have := HKG.out; omega, by go_num, by show _ = _; rw [← HI.out, HD.out, HK.out], rfl⟩

end Go.Proofs.Ytmjpnpnmhacknaa
