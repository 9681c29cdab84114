/- Proved here: the contract of the reference's Text. -/
import Derived.Test.YtmjpnpnmhacknaaRfText
namespace Go.Proofs.Ytmjpnpnmhacknaa
open Go.RowKit Go.Proofs.Tp

/-- What is still to come of a code point: j bytes have come, q bounds are left. -/
def Left (s : ByteArray) (i n j : Nat) (q : List (Nat × Nat)) (lo hi : Nat) : Prop :=
  j + q.length = n ∧ (∀ b r, q = b :: r → (lo, hi) = b ∧ ∀ x, x ∈ r → x = (128, 191)) ∧ utf q (s.data.toList.drop (i + 1 + j)) = utf [] s.data.toList

theorem Left.step {s : ByteArray} {i n j lo hi : Nat} {q : List (Nat × Nat)} (h : Left s i n j q lo hi) (hj : j < n) (hl : i + 1 + j < s.size) :
    if lo ≤ (s[i + 1 + j]'hl).toNat ∧ (s[i + 1 + j]'hl).toNat ≤ hi then ∃ q', Left s i n (j + 1) q' 128 191 else utf [] s.data.toList = false := by
  obtain ⟨h1, h2, h3⟩ := h
  cases q with
  | nil => simp at h1; omega
  | cons b r =>
    obtain ⟨h4, h5⟩ := h2 b r rfl
    rw [utf_step, get_at' s _ hl] at h3
    subst h4
    simp only at h3
    by_cases c : lo ≤ (s[i + 1 + j]'hl).toNat ∧ (s[i + 1 + j]'hl).toNat ≤ hi
    · rw [if_pos c]
      rw [if_pos ⟨hl, c⟩] at h3
      refine ⟨r, by simp at h1; omega, ?_, by rw [← Nat.add_assoc]; exact h3⟩
      intro b' r' e
      subst e
      exact ⟨(h5 b' List.mem_cons_self).symm, fun x hx => h5 x (List.mem_cons_of_mem _ hx)⟩
    · rw [if_neg c]
      rw [if_neg (fun x => c x.2)] at h3
      exact h3.symm

set_option maxHeartbeats 2000000 in
set_option maxRecDepth 1000000 in
theorem rfText_any (s : ByteArray) (w : World) (hs : s.size ≤ 1000000000) :
    Calls Try.prog 33 #[.string s] w fun e w' => e = .returned (.bool (isText s)) ∧ w = w' := by
  by_cases hl : s.size ≤ 65535
  case neg =>
    have hlI : (65535 : Int) < (s.size : Int) := by omega
    have HF := Lib.hid (show isText s = false from by unfold isText; rw [decide_eq_false hl]; rfl)
    clear hl
    go_enter Try.func33, Try.ntmps33
    go_wp2_with fail
    go_ret
    exact ⟨ret_bool HF.out.symm, rfl⟩
  have hlI : ¬ ((65535 : Int) < (s.size : Int)) := by omega
  have HT := Lib.hid (show isText s = utf [] s.data.toList from by unfold isText; rw [decide_eq_true hl]; rfl)
  go_enter Try.func33, Try.ntmps33
  go_wp2_with fail
  go_loopg [3] s.size (fun g i wr => ∃ k, k + g = s.size ∧ i = .int .i64 (k : Nat) ∧ Aside (utf [] (s.data.toList.drop k) = utf [] s.data.toList) ∧ w = wr)
  case atStart => exact ⟨0, by omega, rfl, rfl, rfl⟩
  case round =>
    obtain ⟨k, hkg, rfl, HI, rfl⟩ := hrel
    have HKG := Lib.hid hkg
    cases gk with
    | zero =>
      have hkz : ¬ ((k : Int) < (s.size : Int)) := by omega
      have HF := Lib.hid (show isText s = true from by rw [HT.out, ← HI.out, drop_end s k (by omega)]; rfl)
      clear hkg
      go_wp2_with fail
      go_ret
      exact ⟨ret_bool HF.out.symm, rfl⟩
    | succ g =>
      have hkz : (k : Int) < (s.size : Int) := by omega
      have hkn : k < s.size := by omega
      clear hkg
      have hd := drop_get s k hkn
      rw [get_at' s k hkn] at hd
      have hu : utf [] s.data.toList = match need s[k].toNat with | none => false | some p => utf p (s.data.toList.drop (k + 1)) := by
        rw [← HI.out, hd, utf_nil]; rfl
      clear hd
      by_cases c0 : s[k].toNat = 0
      · have f0 : ((s[k].toNat : Int) == 0) = true := by rw [c0]; rfl
        rw [c0] at hu
        have HF := Lib.hid (show isText s = false from by rw [HT.out, hu]; rfl)
        clear c0 hu
        go_wp2_with fail
        go_ret
        exact ⟨ret_bool HF.out.symm, rfl⟩
      have f0 : ((s[k].toNat : Int) == 0) = false := by rw [beq_eq_false_iff_ne]; omega
      have hlt := s[k].toNat_lt
      have HC := Lib.hid (fun W => more_any s[k].toNat W hlt c0)
      clear c0 hlt
      cases hn : need s[k].toNat with
      | none =>
        rw [hn] at hu
        have HF := Lib.hid (show isText s = false from by rw [HT.out, hu])
        have HV := Lib.hid (moreV_none hn)
        clear hn hu
        go_wp2_with fail
        refine (HC.out _).mono ?_
        rintro e w1 ⟨rfl, rfl⟩
        rw [HV.out]
        go_wp2_with fail
        go_ret
        exact ⟨ret_bool HF.out.symm, rfl⟩
      | some q =>
        rw [hn] at hu
        simp only at hu
        obtain ⟨n, lo, hi, hV, hnl, hlo, hhi, hn3, hq⟩ : ∃ n lo hi : Nat, moreV s[k].toNat = .tuple #[.int .i64 (n : Nat), .int .u8 (lo : Nat), .int .u8 (hi : Nat)] ∧ q.length = n ∧ lo < 256 ∧ hi < 256 ∧ n ≤ 3 ∧ (∀ b r, q = b :: r → (lo, hi) = b ∧ ∀ x, x ∈ r → x = (128, 191)) := by
          cases q with
          | nil => exact ⟨0, 0, 0, moreV_zero hn, rfl, by omega, by omega, by omega, fun b r e => by cases e⟩
          | cons b p =>
            obtain ⟨t1, t2, t3, t4⟩ := need_tail hn
            exact ⟨p.length + 1, b.1, b.2, by rw [moreV_cons hn]; rfl, rfl, t2, t3, by omega, fun b' r e => by cases e; exact ⟨rfl, t1⟩⟩
        have HV := Lib.hid hV
        clear hV hn
        have hloI : (lo : Int) < 256 := by omega
        have hhiI : (hi : Int) < 256 := by omega
        have hn3I : (n : Int) ≤ 3 := by omega
        have hkb : (k : Int) ≤ 65535 := by omega
        by_cases c1 : k + n < s.size
        case neg =>
          have c1I : (s.size : Int) ≤ (k : Int) + (n : Int) := by omega
          have HF := Lib.hid (show isText s = false from by rw [HT.out, hu]; exact utf_len _ _ (by rw [List.length_drop, hnl]; simp; omega))
          have hnneg : ¬ ((n : Int) < 0) := by omega
          clear hu hq c1 hnl
          go_wp2_with fail
          refine (HC.out _).mono ?_
          rintro e w1 ⟨rfl, rfl⟩
          rw [HV.out]
          go_wp2_with fail
          go_ret
          exact ⟨ret_bool HF.out.symm, rfl⟩
        have c1I : ¬ ((s.size : Int) ≤ (k : Int) + (n : Int)) := by omega
        have hnneg : ¬ ((n : Int) < 0) := by omega
        have HL := Lib.hid (show Left s k n 0 q lo hi from ⟨by rw [hnl]; omega, hq, hu.symm⟩)
        clear hu hq hnl
        go_wp2_with fail
        refine (HC.out _).mono ?_
        rintro e w1 ⟨rfl, rfl⟩
        rw [HV.out]
        go_wp2_with fail
        go_loopg [5, 6, 7] (n + 1) (fun g2 l h j wr => ∃ (a b c : Nat) (q : List (Nat × Nat)), c + g2 = n + 1 ∧ l = .int .u8 (a : Nat) ∧ h = .int .u8 (b : Nat) ∧ j = .int .i64 ((c : Int) + 1) ∧ a < 256 ∧ b < 256 ∧ Aside (Left s k n c q a b) ∧ w = wr)
        case atStart => exact ⟨lo, hi, 0, q, by omega, rfl, rfl, rfl, hlo, hhi, HL.out, rfl⟩
        case round =>
          obtain ⟨a, b, c, q', hcg, rfl, rfl, rfl, ha, hb, HJ, rfl⟩ := hrel
          have HCG := Lib.hid hcg
          clear hcg
          by_cases hc : c < n
          · have hcI : (c : Int) + 1 ≤ (n : Int) := by omega
            have hkc : k + 1 + c < s.size := by omega
            have hst := HJ.out.step hc hkc
            have hidx : ((k : Int) + ((c : Int) + 1)).toNat = k + 1 + c := by omega
            by_cases hin : a ≤ (s[k + 1 + c]'hkc).toNat ∧ (s[k + 1 + c]'hkc).toNat ≤ b
            · rw [if_pos hin] at hst
              obtain ⟨q2, hq2⟩ := hst
              have HQ := Lib.hid hq2
              clear hq2
              go_wp2_with fail
              go_roundg (n - c)
              case measure => have := HCG.out; omega
              case rel => exact ⟨128, 191, c + 1, q2, by omega, by go_num, by go_num, by go_num, by omega, by omega, HQ.out, rfl⟩
            · rw [if_neg hin] at hst
              have HF := Lib.hid (show isText s = false from by rw [HT.out]; exact hst)
              clear hst
              go_wp2_with fail
              all_goals
                go_ret
                exact ⟨ret_bool HF.out.symm, rfl⟩
          · have hcI : ¬ ((c : Int) + 1 ≤ (n : Int)) := by omega
            obtain rfl : c = n := by have := HJ.out.1; omega
            have hu := HJ.out.2.2
            have hq0 : q' = [] := List.eq_nil_of_length_eq_zero (by have := HJ.out.1; omega)
            subst hq0
            have HU := Lib.hid hu
            clear hu hc
            go_wp2_with fail
            go_roundg (s.size - (k + c + 1))
            case measure => have := HKG.out; omega
            case rel => exact ⟨k + c + 1, by omega, by go_num, by show _ = _; rw [← HU.out]; congr 2; omega, rfl⟩

end Go.Proofs.Ytmjpnpnmhacknaa
