/- Proved here: the contracts of topic.Join and topic.Shared. -/
import Derived.Test.YtmjpnpnmhacknaaTpGoes
import Derived.Test.YtmjpnpnmhacknaaTpLaw
namespace Go.Proofs.Ytmjpnpnmhacknaa
open Go.RowKit Go.Proofs.Tp

theorem join_any (L : List ByteArray) (v : Value) (w : World) (h : StrsAt w v L) (hL : 0 < L.length) (hn : L.length ≤ 1000000001) (hsz : (joinT L).size ≤ 1000000000) :
    Calls Try.prog 19 #[v] w fun e w' => e = .returned (.string (joinT L)) ∧ Below w.heap.size w w' := by
  obtain ⟨b, off, cap, rfl, h1, h2, h3, h4⟩ := h.open hL
  have HJ := Lib.hid (Try.strings_Join b off cap L ⟨#[47]⟩ w h4 h3 (by omega) h1 (by rw [show (⟨#[47]⟩ : ByteArray).data.toList = [47] from rfl, ← joinT_data, ← size_eq]; omega))
  clear h4
  go_enter Try.func19, Try.ntmps19
  go_wp2_with fail
  refine HJ.out.mono ?_
  rintro e w1 ⟨rfl, hb⟩
  go_wp2_with fail
  go_ret
  exact ⟨rfl, hb⟩

def sharedV (s : ByteArray) : Value := match shared s with
  | none => .tuple #[.string ⟨#[]⟩, .string ⟨#[]⟩, .bool false]
  | some (g, i) => .tuple #[.string g, .string i, .bool true]

theorem sharedV_none {s : ByteArray} (h : shared s = none) : sharedV s = .tuple #[.string ⟨#[]⟩, .string ⟨#[]⟩, .bool false] := by unfold sharedV; rw [h]
theorem sharedV_some {s g i : ByteArray} (h : shared s = some (g, i)) : sharedV s = .tuple #[.string g, .string i, .bool true] := by unfold sharedV; rw [h]

theorem tail_two {w w2 : World} {b o c n : Nat} {a g x : ByteArray} {r L : List ByteArray} (hL : L = a :: g :: x :: r) (hn : L.length = n) (h3 : 3 ≤ n) (hc : n ≤ c) (hm : c ≤ 9223372036854775807)
    (h : ∀ i y, L[i]? = some y → w.cell? ⟨b, o + i, none⟩ = some (.string y)) (hb : Below w.heap.size w w2) : StrsAt w2 (.slice (some ⟨b, o + 2, none⟩) (n - 2) (c - 2)) (x :: r) := by
  subst hL
  have hl : (x :: r).length = n - 2 := by simp at hn ⊢; omega
  refine StrsAt.below (w := w) ?_ hb
  refine ⟨_, _, by rw [hl], by rw [hl]; omega, by unfold maxLen; omega, .inr ⟨b, o + 2, rfl, fun i y hy => ?_⟩⟩
  rw [Nat.add_assoc, Nat.add_comm 2 i]
  exact h (i + 2) y hy

set_option maxHeartbeats 2000000 in
set_option maxRecDepth 100000 in
theorem shared_any (s : ByteArray) (w : World) (hs : s.size ≤ 1000000000) :
    Calls Try.prog 20 #[.string s] w fun e w' => e = .returned (sharedV s) ∧ Below w.heap.size w w' := by
  have hl := levels_len s hs
  have hsh : shared s = match levels s with
    | a :: g :: x :: r => if a.data.toList = [36, 115, 104, 97, 114, 101] ∧ chk g = 0 ∧ chkF (joinT (x :: r)) = 0 ∧ chkF s = 0 then some (g, joinT (x :: r)) else none
    | _ => none := rfl
  by_cases h3 : (levels s).length < 3
  · have h3I : ((levels s).length : Int) < 3 := by omega
    have hv : sharedV s = .tuple #[.string ⟨#[]⟩, .string ⟨#[]⟩, .bool false] := by
      apply sharedV_none
      rw [hsh]
      match hL : levels s with
      | [] => rfl
      | [a] => rfl
      | [a, g] => rfl
      | a :: g :: x :: r => rw [hL] at h3; simp at h3; omega
    have HV := Lib.hid hv
    clear hv hsh
    go_enter Try.func20, Try.ntmps20
    go_wp2_with fail
    refine (levels_any s _ hs).mono ?_
    rintro e w1 ⟨v, rfl, hown, hb⟩
    obtain ⟨b, off, cap, rfl, q1, q2, q3, q4⟩ := (StrsAt.of_owns hown).open hl.1
    clear q4 hown
    go_wp2_with fail
    go_ret3
    exact ⟨by rw [HV.out]; rfl, hb⟩
  · obtain ⟨a, g, x, r, hL⟩ : ∃ a g x r, levels s = a :: g :: x :: r := by
      match hL : levels s with
      | [] => rw [hL] at h3; simp at h3
      | [a] => rw [hL] at h3; simp at h3
      | [a, g] => rw [hL] at h3; simp at h3
      | a :: g :: x :: r => exact ⟨a, g, x, r, rfl⟩
    rw [hL] at hsh
    simp only at hsh
    obtain ⟨n, hnn⟩ : ∃ n, (levels s).length = n := ⟨_, rfl⟩
    have hn3 : 3 ≤ n := by omega
    have hn4 : n ≤ 1000000001 := by omega
    have hi := inner_size s a g x r hL
    have hgs : g.size ≤ 1000000000 := by omega
    have his : (joinT (x :: r)).size ≤ 1000000000 := by omega
    clear h3 hi
    by_cases ca : a.data.toList = [36, 115, 104, 97, 114, 101]
    · have fa : (a.toList == [36, 115, 104, 97, 114, 101]) = true := by rw [strEq, decide_eq_true ca]
      have fa2 : (a.toList != [36, 115, 104, 97, 114, 101]) = false := by unfold bne; rw [fa]; rfl
      by_cases cg : chk g = 0
      · have fg : (chk g != 0) = false := by rw [cg]; rfl
        by_cases ci : chkF (joinT (x :: r)) = 0
        · have fi : (chkF (joinT (x :: r)) != 0) = false := by rw [ci]; rfl
          by_cases cs : chkF s = 0
          · have fs : (chkF s != 0) = false := by rw [cs]; rfl
            have HV := Lib.hid (sharedV_some (s := s) (g := g) (i := joinT (x :: r)) (by rw [hsh, if_pos ⟨ca, cg, ci, cs⟩]))
            clear ca cg ci cs hsh
            go_enter Try.func20, Try.ntmps20
            go_wp2_with fail
            refine (levels_any s _ hs).mono ?_
            rintro e w1 ⟨v, rfl, hown, hb⟩
            obtain ⟨b, off, cap, rfl, q1, q2, q3, q4⟩ := (StrsAt.of_owns hown).open hl.1
            have Q4 := Lib.hid q4
            have HL := Lib.hid hL
            have HN := Lib.hid hnn
            have ha : w1.cell? ⟨b, off, none⟩ = some (.string a) := q4 0 a (by rw [hL]; rfl)
            have hg : w1.cell? ⟨b, off + 1, none⟩ = some (.string g) := q4 1 g (by rw [hL]; rfl)
            clear q4 hown hL
            rw [hnn] at q1 ⊢
            clear hnn
            go_wp2_with fail
            refine (check_any g _ hgs).mono ?_
            rintro e w2 ⟨rfl, hb2⟩
            go_wp2_with fail
            refine (join_any (x :: r) _ _ (tail_two HL.out HN.out hn3 q1 q2 Q4.out hb2) (by simp) (by have := HN.out; rw [HL.out] at this; simp at this ⊢; omega) his).mono ?_
            rintro e w3 ⟨rfl, hb3⟩
            have HB3 := Lib.hid ((hb.trans (hb2.mono hb.size)).trans (hb3.mono (Nat.le_trans hb.size hb2.size)))
            have hz3 : w.heap.size ≤ w3.heap.size := HB3.out.size
            go_wp2_with fail
            refine (checkFilter_any _ _ his).mono ?_
            rintro e w4 ⟨rfl, hb4⟩
            have hg5 := ((hb3.cell (p := ⟨b, off + 1, none⟩) (Nat.lt_of_lt_of_le q3 hb2.size)).trans ((hb2.cell (p := ⟨b, off + 1, none⟩) q3).trans hg))
            have hz2 := hb3.size
            have hg6 := (hb4.cell (p := ⟨b, off + 1, none⟩) (by have := hb2.size; simp; omega)).trans hg5
            go_wp2_with fail
            refine (checkFilter_any _ _ hs).mono ?_
            rintro e w5 ⟨rfl, hb5⟩
            have hg7 := (hb5.cell (p := ⟨b, off + 1, none⟩) (by have := hb2.size; have := hb4.size; simp; omega)).trans hg6
            go_wp2_with fail
            go_ret3
            exact ⟨by rw [HV.out]; rfl, (HB3.out.trans (hb4.mono hz3)).trans (hb5.mono (Nat.le_trans hz3 hb4.size))⟩
          · have fs : (chkF s != 0) = true := by rw [bne_iff_ne]; exact cs
            have HV := Lib.hid (sharedV_none (s := s) (by rw [hsh, if_neg (fun h => cs h.2.2.2)]))
            clear ca cg ci cs hsh
            go_enter Try.func20, Try.ntmps20
            go_wp2_with fail
            refine (levels_any s _ hs).mono ?_
            rintro e w1 ⟨v, rfl, hown, hb⟩
            obtain ⟨b, off, cap, rfl, q1, q2, q3, q4⟩ := (StrsAt.of_owns hown).open hl.1
            have Q4 := Lib.hid q4
            have HL := Lib.hid hL
            have HN := Lib.hid hnn
            have ha : w1.cell? ⟨b, off, none⟩ = some (.string a) := q4 0 a (by rw [hL]; rfl)
            have hg : w1.cell? ⟨b, off + 1, none⟩ = some (.string g) := q4 1 g (by rw [hL]; rfl)
            clear q4 hown hL
            rw [hnn] at q1 ⊢
            clear hnn
            go_wp2_with fail
            refine (check_any g _ hgs).mono ?_
            rintro e w2 ⟨rfl, hb2⟩
            go_wp2_with fail
            refine (join_any (x :: r) _ _ (tail_two HL.out HN.out hn3 q1 q2 Q4.out hb2) (by simp) (by have := HN.out; rw [HL.out] at this; simp at this ⊢; omega) his).mono ?_
            rintro e w3 ⟨rfl, hb3⟩
            have HB3 := Lib.hid ((hb.trans (hb2.mono hb.size)).trans (hb3.mono (Nat.le_trans hb.size hb2.size)))
            have hz3 : w.heap.size ≤ w3.heap.size := HB3.out.size
            go_wp2_with fail
            refine (checkFilter_any _ _ his).mono ?_
            rintro e w4 ⟨rfl, hb4⟩
            go_wp2_with fail
            refine (checkFilter_any _ _ hs).mono ?_
            rintro e w5 ⟨rfl, hb5⟩
            go_wp2_with fail
            go_ret3
            exact ⟨by rw [HV.out]; rfl, (HB3.out.trans (hb4.mono hz3)).trans (hb5.mono (Nat.le_trans hz3 hb4.size))⟩
        · have fi : (chkF (joinT (x :: r)) != 0) = true := by rw [bne_iff_ne]; exact ci
          have HV := Lib.hid (sharedV_none (s := s) (by rw [hsh, if_neg (fun h => ci h.2.2.1)]))
          clear ca cg ci hsh
          go_enter Try.func20, Try.ntmps20
          go_wp2_with fail
          refine (levels_any s _ hs).mono ?_
          rintro e w1 ⟨v, rfl, hown, hb⟩
          obtain ⟨b, off, cap, rfl, q1, q2, q3, q4⟩ := (StrsAt.of_owns hown).open hl.1
          have Q4 := Lib.hid q4
          have HL := Lib.hid hL
          have HN := Lib.hid hnn
          have ha : w1.cell? ⟨b, off, none⟩ = some (.string a) := q4 0 a (by rw [hL]; rfl)
          have hg : w1.cell? ⟨b, off + 1, none⟩ = some (.string g) := q4 1 g (by rw [hL]; rfl)
          clear q4 hown hL
          rw [hnn] at q1 ⊢
          clear hnn
          go_wp2_with fail
          refine (check_any g _ hgs).mono ?_
          rintro e w2 ⟨rfl, hb2⟩
          go_wp2_with fail
          refine (join_any (x :: r) _ _ (tail_two HL.out HN.out hn3 q1 q2 Q4.out hb2) (by simp) (by have := HN.out; rw [HL.out] at this; simp at this ⊢; omega) his).mono ?_
          rintro e w3 ⟨rfl, hb3⟩
          have HB3 := Lib.hid ((hb.trans (hb2.mono hb.size)).trans (hb3.mono (Nat.le_trans hb.size hb2.size)))
          have hz3 : w.heap.size ≤ w3.heap.size := HB3.out.size
          go_wp2_with fail
          refine (checkFilter_any _ _ his).mono ?_
          rintro e w4 ⟨rfl, hb4⟩
          go_wp2_with fail
          go_ret3
          exact ⟨by rw [HV.out]; rfl, HB3.out.trans (hb4.mono hz3)⟩
      · have fg : (chk g != 0) = true := by rw [bne_iff_ne]; exact cg
        have HV := Lib.hid (sharedV_none (s := s) (by rw [hsh, if_neg (fun h => cg h.2.1)]))
        clear ca cg hsh
        go_enter Try.func20, Try.ntmps20
        go_wp2_with fail
        refine (levels_any s _ hs).mono ?_
        rintro e w1 ⟨v, rfl, hown, hb⟩
        obtain ⟨b, off, cap, rfl, q1, q2, q3, q4⟩ := (StrsAt.of_owns hown).open hl.1
        have Q4 := Lib.hid q4
        have HL := Lib.hid hL
        have HN := Lib.hid hnn
        have ha : w1.cell? ⟨b, off, none⟩ = some (.string a) := q4 0 a (by rw [hL]; rfl)
        have hg : w1.cell? ⟨b, off + 1, none⟩ = some (.string g) := q4 1 g (by rw [hL]; rfl)
        clear q4 hown hL
        rw [hnn] at q1 ⊢
        clear hnn
        go_wp2_with fail
        refine (check_any g _ hgs).mono ?_
        rintro e w2 ⟨rfl, hb2⟩
        go_wp2_with fail
        go_ret3
        exact ⟨by rw [HV.out]; rfl, hb.trans (hb2.mono hb.size)⟩
    · have fa : (a.toList == [36, 115, 104, 97, 114, 101]) = false := by rw [strEq, decide_eq_false ca]
      have fa2 : (a.toList != [36, 115, 104, 97, 114, 101]) = true := by unfold bne; rw [fa]; rfl
      have HV := Lib.hid (sharedV_none (s := s) (by rw [hsh, if_neg (fun h => ca h.1)]))
      clear ca hsh
      go_enter Try.func20, Try.ntmps20
      go_wp2_with fail
      refine (levels_any s _ hs).mono ?_
      rintro e w1 ⟨v, rfl, hown, hb⟩
      obtain ⟨b, off, cap, rfl, q1, q2, q3, q4⟩ := (StrsAt.of_owns hown).open hl.1
      have Q4 := Lib.hid q4
      have HL := Lib.hid hL
      have HN := Lib.hid hnn
      have ha : w1.cell? ⟨b, off, none⟩ = some (.string a) := q4 0 a (by rw [hL]; rfl)
      have hg : w1.cell? ⟨b, off + 1, none⟩ = some (.string g) := q4 1 g (by rw [hL]; rfl)
      clear q4 hown hL
      rw [hnn] at q1 ⊢
      clear hnn
      go_wp2_with fail
      go_ret3
      exact ⟨by rw [HV.out]; rfl, hb⟩

end Go.Proofs.Ytmjpnpnmhacknaa
