/- Proved here: the contracts of cmp.Compare and slices.Compare at texts, and of topic.Compare. -/
import Derived.Test.YtmjpnpnmhacknaaTpFilter
import Derived.Sort.Walk0
import Derived.WalkLawsBesides
namespace Go.Proofs.Ytmjpnpnmhacknaa
open Go.RowKit Go.Proofs.Tp

theorem ba_ext {x y : ByteArray} (h : x.data.toList = y.data.toList) : x = y := by
  obtain ⟨⟨a⟩⟩ := x; obtain ⟨⟨b⟩⟩ := y; simp only at h; rw [h]

set_option maxHeartbeats 400000 in
theorem cmpStr_any (x y : ByteArray) (w : World) :
    Calls Try.prog 30 #[.string x, .string y] w fun e w' => e = .returned (.int .i64 (cmpB x y)) ∧ w = w' := by
  by_cases h1 : x.data.toList < y.data.toList
  · have b1 : Op.bytesLess x.toList y.toList = true := by rw [bytesLess_eq, Lib.toList_data, Lib.toList_data]; simpa using h1
    have hf : cmpB x y = -1 := by unfold cmpB; rw [if_pos h1]
    have HF := Lib.hid hf
    clear hf h1
    go_enter Try.func30, Try.ntmps30
    go_wp2
    go_ret
    exact ⟨ret_int HF.out.symm, rfl⟩
  · have b1 : Op.bytesLess x.toList y.toList = false := by rw [bytesLess_eq, Lib.toList_data, Lib.toList_data]; simpa using h1
    by_cases h2 : y.data.toList < x.data.toList
    · have b2 : (x.toList == y.toList) = false := by
        rw [Lib.toList_data, Lib.toList_data, beq_eq_false_iff_ne]; intro e; rw [e] at h2; exact absurd h2 (List.lt_irrefl _)
      have hf : cmpB x y = 1 := by unfold cmpB; rw [if_neg h1, if_pos h2]
      have HF := Lib.hid hf
      clear hf h1 h2
      go_enter Try.func30, Try.ntmps30
      go_wp2
      go_ret
      exact ⟨ret_int HF.out.symm, rfl⟩
    · have b2 : (x.toList == y.toList) = true := by
        rw [Lib.toList_data, Lib.toList_data, beq_iff_eq]; exact List.le_antisymm (List.not_lt.1 h2) (List.not_lt.1 h1)
      have hf : cmpB x y = 0 := by unfold cmpB; rw [if_neg h1, if_neg h2]
      have HF := Lib.hid hf
      clear hf h1 h2
      go_enter Try.func30, Try.ntmps30
      go_wp2
      go_ret
      exact ⟨ret_int HF.out.symm, rfl⟩

theorem cmpB_cases (x y : ByteArray) : cmpB x y = -1 ∨ cmpB x y = 0 ∨ cmpB x y = 1 := by unfold cmpB; split; (exact .inl rfl); split; (exact .inr (.inr rfl)); exact .inr (.inl rfl)

theorem drop_at {α : Type} {L : List α} {k : Nat} {x : α} (h : L[k]? = some x) : L.drop k = x :: L.drop (k + 1) := by
  obtain ⟨hlt, he⟩ := List.getElem?_eq_some_iff.1 h
  rw [List.drop_eq_getElem_cons hlt, he]

set_option maxHeartbeats 400000 in
set_option maxRecDepth 100000 in
theorem compare_walk (A B : List ByteArray) (b1 o1 c1 b2 o2 c2 n m : Nat) (w : World) (hn : A.length = n) (hm : B.length = m) (hnc : n ≤ c1) (_hmc : m ≤ c2) (hc1 : c1 ≤ 9223372036854775807) (_hc2 : c2 ≤ 9223372036854775807)
    (hA : ∀ i x, A[i]? = some x → w.cell? ⟨b1, o1 + i, none⟩ = some (.string x)) (hB : ∀ i x, B[i]? = some x → w.cell? ⟨b2, o2 + i, none⟩ = some (.string x)) :
    Calls Try.prog 21 #[.slice (some ⟨b1, o1, none⟩) n c1, .slice (some ⟨b2, o2, none⟩) m c2] w fun e w' => e = .returned (.int .i64 (cmpL A B)) ∧ w = w' := by
  have HA := Lib.hid hA
  have HB := Lib.hid hB
  have HN := Lib.hid hn
  have HM := Lib.hid hm
  clear hA hB hn hm
  go_enter Try.func21, Try.ntmps21
  go_wp2_with fail
  go_loopg [11] n (fun g i wr => ∃ k, k + g = n ∧ i = .int .i64 (k : Nat) ∧ k ≤ m ∧ Aside (cmpL (A.drop k) (B.drop k) = cmpL A B) ∧ w = wr)
  case atStart => exact ⟨0, by omega, rfl, Nat.zero_le _, rfl, rfl⟩
  case round =>
    obtain ⟨k, hkg, rfl, hkm, HI, rfl⟩ := hrel
    have HKG := Lib.hid hkg
    cases gk with
    | zero =>
      have hkz : ¬ ((k : Int) < (n : Int)) := by omega
      have hAk : A.drop k = [] := List.drop_eq_nil_of_le (by rw [HN.out]; omega)
      by_cases hnm : n < m
      · have hnmI : (n : Int) < (m : Int) := by omega
        have hf : cmpL A B = -1 := by
          rw [← HI.out, hAk]
          obtain ⟨y, hy⟩ : ∃ y, B[k]? = some y := ⟨B[k]'(by rw [HM.out]; omega), List.getElem?_eq_getElem _⟩
          rw [drop_at hy]; rfl
        have HF := Lib.hid hf
        clear hf hAk hkg hnm
        go_wp2_with fail
        go_ret
        exact ⟨ret_int HF.out.symm, rfl⟩
      · have hnmI : ¬ ((n : Int) < (m : Int)) := by omega
        have hf : cmpL A B = 0 := by
          rw [← HI.out, hAk, show B.drop k = [] from List.drop_eq_nil_of_le (by rw [HM.out]; omega)]; rfl
        have HF := Lib.hid hf
        clear hf hAk hkg hnm
        go_wp2_with fail
        go_ret
        exact ⟨ret_int HF.out.symm, rfl⟩
    | succ g =>
      have hkz : (k : Int) < (n : Int) := by omega
      have hkn : k < n := by omega
      clear hkg
      obtain ⟨x, hx⟩ : ∃ x, A[k]? = some x := ⟨A[k]'(by rw [HN.out]; exact hkn), List.getElem?_eq_getElem _⟩
      have hcx : w.cell? ⟨b1, o1 + k, none⟩ = some (.string x) := HA.out k x hx
      have HX := Lib.hid (drop_at hx)
      clear hx
      by_cases hkm2 : k < m
      · have hkmI : ¬ ((m : Int) ≤ (k : Int)) := by omega
        obtain ⟨y, hy⟩ : ∃ y, B[k]? = some y := ⟨B[k]'(by rw [HM.out]; exact hkm2), List.getElem?_eq_getElem _⟩
        have hcy : w.cell? ⟨b2, o2 + k, none⟩ = some (.string y) := HB.out k y hy
        have HY := Lib.hid (drop_at hy)
        clear hy
        have hcb := cmpB_cases x y
        by_cases z : cmpB x y = 0
        · have hz : (cmpB x y != 0) = false := by rw [z]; rfl
          have hf : cmpL (A.drop (k + 1)) (B.drop (k + 1)) = cmpL A B := by rw [← HI.out, HX.out, HY.out]; simp [cmpL, z]
          have HF := Lib.hid hf
          clear hf z hcb
          go_wp2_with (go_at_call 30; refine (cmpStr_any _ _ _).mono ?_; rintro e w' ⟨rfl, rfl⟩)
          go_roundg g
          case measure => omega
          case rel => exact ⟨k + 1, by have := HKG.out; omega, by go_num, by omega, HF.out, rfl⟩
        · have hz : (cmpB x y != 0) = true := by rw [bne_iff_ne]; exact z
          have hf : cmpL A B = cmpB x y := by rw [← HI.out, HX.out, HY.out]; simp [cmpL, z]
          have HF := Lib.hid hf
          clear hf z hcb
          go_wp2_with (go_at_call 30; refine (cmpStr_any _ _ _).mono ?_; rintro e w' ⟨rfl, rfl⟩)
          go_ret
          exact ⟨ret_int HF.out.symm, rfl⟩
      · have hkmI : (m : Int) ≤ (k : Int) := by omega
        have hf : cmpL A B = 1 := by
          rw [← HI.out, HX.out, show B.drop k = [] from List.drop_eq_nil_of_le (by rw [HM.out]; omega)]; rfl
        have HF := Lib.hid hf
        clear hf
        go_wp2_with fail
        go_ret
        exact ⟨ret_int HF.out.symm, rfl⟩

theorem levels_len (s : ByteArray) (hs : s.size ≤ 1000000000) : 0 < (levels s).length ∧ (levels s).length ≤ 1000000001 := by
  have := (lvTo_le s s.size).2
  simp only [levels, List.length_append, List.length_cons, List.length_nil]; omega

set_option maxHeartbeats 400000 in
theorem compare_any (s t : ByteArray) (w : World) (hs : s.size ≤ 1000000000) (ht : t.size ≤ 1000000000) :
    Calls Try.prog 8 #[.string s, .string t] w fun e w' => e = .returned (.int .i64 (cmpT s t)) ∧ Below w.heap.size w w' := by
  have h1 := levels_len s hs
  have h2 := levels_len t ht
  go_enter Try.func8, Try.ntmps8
  go_wp2_with fail
  refine (levels_any s _ hs).mono ?_
  rintro e w1 ⟨v, rfl, hown, hb⟩
  obtain ⟨b1, o1, c1, rfl, q1, q2, q3, q4⟩ := (StrsAt.of_owns hown).open h1.1
  go_wp2_with fail
  refine (levels_any t _ ht).mono ?_
  rintro e w2 ⟨v2, rfl, hown2, hb2⟩
  obtain ⟨b2, o2, c2, rfl, r1, r2, r3, r4⟩ := (StrsAt.of_owns hown2).open h2.1
  go_wp2_with fail
  refine (compare_walk (levels s) (levels t) b1 o1 c1 b2 o2 c2 _ _ _ rfl rfl q1 r1 q2 r2 (fun i x hx => (hb2.cell (p := ⟨b1, o1 + i, none⟩) q3).trans (q4 i x hx)) r4).mono ?_
  rintro e w3 ⟨rfl, rfl⟩
  go_wp2_with fail
  go_ret
  exact ⟨ret_int rfl, hb.trans (hb2.mono hb.size)⟩
end Go.Proofs.Ytmjpnpnmhacknaa
