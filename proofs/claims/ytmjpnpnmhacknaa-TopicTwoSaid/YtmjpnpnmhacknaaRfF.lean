/- Proved here: the contracts of the reference's Shared and Plain. -/
import Derived.Test.YtmjpnpnmhacknaaRfE
namespace Go.Proofs.Ytmjpnpnmhacknaa
open Go.RowKit Go.Proofs.Tp

theorem rfJoin_any (L : List ByteArray) (v : Value) (w : World) (h : StrsAt w v L) (hL : 0 < L.length) (hn : L.length ≤ 1000000001) (hsz : (joinT L).size ≤ 1000000000) :
    Calls Try.prog 41 #[v] w fun e w' => e = .returned (.string (joinT L)) ∧ Below w.heap.size w w' := by
  obtain ⟨b, off, cap, rfl, h1, h2, h3, h4⟩ := h.open hL
  exact rfJoin_walk L b off cap _ w rfl h1 h2 h3 hn h4 hsz

set_option maxHeartbeats 4000000 in
set_option maxRecDepth 1000000 in
theorem rfShared_any (s : ByteArray) (w : World) (hs : s.size ≤ 1000000000) :
    Calls Try.prog 31 #[.string s] w fun e w' => e = .returned (sharedV s) ∧ Below w.heap.size w w' := by
  have hl := levels_len s hs
  have hsh : shared s = match levels s with
    | a :: g :: x :: r => if a.data.toList = [36, 115, 104, 97, 114, 101] ∧ chk g = 0 ∧ chkF (joinT (x :: r)) = 0 ∧ chkF s = 0 then some (g, joinT (x :: r)) else none
    | _ => none := rfl
  by_cases cs : chkF s = 0
  case neg =>
    have fs : (chkF s != 0) = true := by rw [bne_iff_ne]; exact cs
    have HV := Lib.hid (sharedV_none (s := s) (by
      rw [hsh]
      match levels s with
      | [] => rfl
      | [a] => rfl
      | [a, g] => rfl
      | a :: g :: x :: r => exact if_neg (fun h => cs h.2.2.2)))
    clear cs hsh
    go_enter Try.func31, Try.ntmps31
    go_wp2_with fail
    refine (rfLevels_any s _ hs).mono ?_
    rintro e w1 ⟨v, rfl, hown, hb⟩
    obtain ⟨b, off, cap, rfl, q1, q2, q3, q4⟩ := (StrsAt.of_owns hown).open hl.1
    clear q4 hown
    go_wp2_with fail
    refine (rfCheckFilter_any s _ hs).mono ?_
    rintro e w2 ⟨rfl, hb2⟩
    have HB2 := Lib.hid (hb.trans (hb2.mono hb.size))
    go_wp2_with fail
    go_ret3
    exact ⟨by rw [HV.out]; rfl, HB2.out⟩
  have fs : (chkF s != 0) = false := by rw [cs]; rfl
  by_cases h3 : (levels s).length < 3
  · have h3I : ((levels s).length : Int) < 3 := by omega
    have HV := Lib.hid (sharedV_none (s := s) (by
      rw [hsh]
      match hL : levels s with
      | [] => rfl
      | [a] => rfl
      | [a, g] => rfl
      | a :: g :: x :: r => rw [hL] at h3; simp at h3; omega))
    clear cs hsh h3
    go_enter Try.func31, Try.ntmps31
    go_wp2_with fail
    refine (rfLevels_any s _ hs).mono ?_
    rintro e w1 ⟨v, rfl, hown, hb⟩
    obtain ⟨b, off, cap, rfl, q1, q2, q3, q4⟩ := (StrsAt.of_owns hown).open hl.1
    clear q4 hown
    go_wp2_with fail
    refine (rfCheckFilter_any s _ hs).mono ?_
    rintro e w2 ⟨rfl, hb2⟩
    have HB2 := Lib.hid (hb.trans (hb2.mono hb.size))
    go_wp2_with fail
    go_ret3
    exact ⟨by rw [HV.out]; rfl, HB2.out⟩
  obtain ⟨a, g, x, r, hL⟩ : ∃ a g x r, levels s = a :: g :: x :: r := by
    match hL : levels s with
    | [] => rw [hL] at h3; simp at h3
    | [a] => rw [hL] at h3; simp at h3
    | [a, g] => rw [hL] at h3; simp at h3
    | a :: g :: x :: r => exact ⟨a, g, x, r, rfl⟩
  rw [hL] at hsh
  simp only at hsh
  obtain ⟨n, hnn⟩ : ∃ n, (levels s).length = n := ⟨_, rfl⟩
  have hn3 : 3 ≤ n := by omega
  have hn3I : ¬ ((n : Int) < 3) := by omega
  have hn4 : n ≤ 1000000001 := by omega
  have hi := inner_size s a g x r hL
  have hgs : g.size ≤ 1000000000 := by omega
  have his : (joinT (x :: r)).size ≤ 1000000000 := by omega
  have hgt : isText g = true := isText_level (chkF_zero cs).2.1 (by rw [hL]; simp)
  clear h3 hi
  by_cases ca : a.data.toList = [36, 115, 104, 97, 114, 101]
  case neg =>
    have fa : (a.toList == [36, 115, 104, 97, 114, 101]) = false := by rw [strEq, decide_eq_false ca]
    have fa2 : (a.toList != [36, 115, 104, 97, 114, 101]) = true := by unfold bne; rw [fa]; rfl
    have HV := Lib.hid (sharedV_none (s := s) (by rw [hsh, if_neg (fun h => ca h.1)]))
    clear ca hsh hgt cs
    go_enter Try.func31, Try.ntmps31
    go_wp2_with fail
    refine (rfLevels_any s _ hs).mono ?_
    rintro e w1 ⟨v, rfl, hown, hb⟩
    obtain ⟨b, off, cap, rfl, q1, q2, q3, q4⟩ := (StrsAt.of_owns hown).open hl.1
    have Q4 := Lib.hid q4
    have HL := Lib.hid hL
    have HN := Lib.hid hnn
    have ha : w1.cell? ⟨b, off, none⟩ = some (.string a) := q4 0 a (by rw [hL]; rfl)
    have hg : w1.cell? ⟨b, off + 1, none⟩ = some (.string g) := q4 1 g (by rw [hL]; rfl)
    clear q4 hown hL
    rw [hnn] at q1 ⊢
    clear hnn
    go_wp2_with fail
    refine (rfCheckFilter_any s _ hs).mono ?_
    rintro e w2 ⟨rfl, hb2⟩
    have HB2 := Lib.hid (hb.trans (hb2.mono hb.size))
    have ha2 := (hb2.cell (p := ⟨b, off, none⟩) q3).trans ha
    have hg2 := (hb2.cell (p := ⟨b, off + 1, none⟩) q3).trans hg
    go_wp2_with fail
    go_ret3
    exact ⟨by rw [HV.out]; rfl, HB2.out⟩
  have fa : (a.toList == [36, 115, 104, 97, 114, 101]) = true := by rw [strEq, decide_eq_true ca]
  have fa2 : (a.toList != [36, 115, 104, 97, 114, 101]) = false := by unfold bne; rw [fa]; rfl
  by_cases g0 : g.size = 0
  · have f0 := isEmpty_of g g0
    have HV := Lib.hid (sharedV_none (s := s) (by rw [hsh, if_neg (fun h => (chk_zero.1 h.2.1).1 g0)]))
    clear ca hsh hgt cs g0
    go_enter Try.func31, Try.ntmps31
    go_wp2_with fail
    refine (rfLevels_any s _ hs).mono ?_
    rintro e w1 ⟨v, rfl, hown, hb⟩
    obtain ⟨b, off, cap, rfl, q1, q2, q3, q4⟩ := (StrsAt.of_owns hown).open hl.1
    have Q4 := Lib.hid q4
    have HL := Lib.hid hL
    have HN := Lib.hid hnn
    have ha : w1.cell? ⟨b, off, none⟩ = some (.string a) := q4 0 a (by rw [hL]; rfl)
    have hg : w1.cell? ⟨b, off + 1, none⟩ = some (.string g) := q4 1 g (by rw [hL]; rfl)
    clear q4 hown hL
    rw [hnn] at q1 ⊢
    clear hnn
    go_wp2_with fail
    refine (rfCheckFilter_any s _ hs).mono ?_
    rintro e w2 ⟨rfl, hb2⟩
    have HB2 := Lib.hid (hb.trans (hb2.mono hb.size))
    have ha2 := (hb2.cell (p := ⟨b, off, none⟩) q3).trans ha
    have hg2 := (hb2.cell (p := ⟨b, off + 1, none⟩) q3).trans hg
    go_wp2_with fail
    go_ret3
    exact ⟨by rw [HV.out]; rfl, HB2.out⟩
  have f0 := isEmpty_no g g0
  cases gs : sign g with
  | true =>
    have HG := Lib.hid gs
    have HV := Lib.hid (sharedV_none (s := s) (by rw [hsh, if_neg (fun h => by have := (chk_zero.1 h.2.1).2.2; rw [gs] at this; cases this)]))
    clear ca hsh hgt cs g0 gs
    go_enter Try.func31, Try.ntmps31
    go_wp2_with fail
    refine (rfLevels_any s _ hs).mono ?_
    rintro e w1 ⟨v, rfl, hown, hb⟩
    obtain ⟨b, off, cap, rfl, q1, q2, q3, q4⟩ := (StrsAt.of_owns hown).open hl.1
    have Q4 := Lib.hid q4
    have HL := Lib.hid hL
    have HN := Lib.hid hnn
    have ha : w1.cell? ⟨b, off, none⟩ = some (.string a) := q4 0 a (by rw [hL]; rfl)
    have hg : w1.cell? ⟨b, off + 1, none⟩ = some (.string g) := q4 1 g (by rw [hL]; rfl)
    clear q4 hown hL
    rw [hnn] at q1 ⊢
    clear hnn
    go_wp2_with fail
    refine (rfCheckFilter_any s _ hs).mono ?_
    rintro e w2 ⟨rfl, hb2⟩
    have HB2 := Lib.hid (hb.trans (hb2.mono hb.size))
    have ha2 := (hb2.cell (p := ⟨b, off, none⟩) q3).trans ha
    have hg2 := (hb2.cell (p := ⟨b, off + 1, none⟩) q3).trans hg
    go_wp2_with fail
    refine (rfSign_any g _ hgs).mono ?_
    rintro e w3 ⟨rfl, rfl⟩
    rw [HG.out]
    go_wp2_with fail
    go_ret3
    exact ⟨by rw [HV.out]; rfl, HB2.out⟩
  | false =>
    have HG := Lib.hid gs
    by_cases ci : chkF (joinT (x :: r)) = 0
    · have fi : (chkF (joinT (x :: r)) != 0) = false := by rw [ci]; rfl
      have HV := Lib.hid (sharedV_some (s := s) (g := g) (i := joinT (x :: r)) (by rw [hsh, if_pos ⟨ca, chk_zero.2 ⟨g0, hgt, gs⟩, ci, cs⟩]))
      clear ca hsh hgt cs g0 gs ci
      go_enter Try.func31, Try.ntmps31
      go_wp2_with fail
      refine (rfLevels_any s _ hs).mono ?_
      rintro e w1 ⟨v, rfl, hown, hb⟩
      obtain ⟨b, off, cap, rfl, q1, q2, q3, q4⟩ := (StrsAt.of_owns hown).open hl.1
      have Q4 := Lib.hid q4
      have HL := Lib.hid hL
      have HN := Lib.hid hnn
      have ha : w1.cell? ⟨b, off, none⟩ = some (.string a) := q4 0 a (by rw [hL]; rfl)
      have hg : w1.cell? ⟨b, off + 1, none⟩ = some (.string g) := q4 1 g (by rw [hL]; rfl)
      clear q4 hown hL
      rw [hnn] at q1 ⊢
      clear hnn
      go_wp2_with fail
      refine (rfCheckFilter_any s _ hs).mono ?_
      rintro e w2 ⟨rfl, hb2⟩
      have HB2 := Lib.hid (hb.trans (hb2.mono hb.size))
      have ha2 := (hb2.cell (p := ⟨b, off, none⟩) q3).trans ha
      have hg2 := (hb2.cell (p := ⟨b, off + 1, none⟩) q3).trans hg
      go_wp2_with fail
      refine (rfSign_any g _ hgs).mono ?_
      rintro e w3 ⟨rfl, rfl⟩
      rw [HG.out]
      go_wp2_with fail
      refine (rfJoin_any (x :: r) _ _ (tail_two HL.out HN.out hn3 q1 q2 Q4.out hb2) (by simp) (by have := HN.out; rw [HL.out] at this; simp at this ⊢; omega) his).mono ?_
      rintro e w4 ⟨rfl, hb3⟩
      have HB3 := Lib.hid (HB2.out.trans (hb3.mono HB2.out.size))
      have hz3 : w.heap.size ≤ w4.heap.size := HB3.out.size
      go_wp2_with fail
      refine (rfCheckFilter_any _ _ his).mono ?_
      rintro e w5 ⟨rfl, hb4⟩
      have hg5 := (hb3.cell (p := ⟨b, off + 1, none⟩) (Nat.lt_of_lt_of_le q3 hb2.size)).trans hg2
      have hz2 := hb3.size
      have hg6 := (hb4.cell (p := ⟨b, off + 1, none⟩) (by have := hb2.size; simp; omega)).trans hg5
      go_wp2_with fail
      go_ret3
      exact ⟨by rw [HV.out]; rfl, HB3.out.trans (hb4.mono hz3)⟩
    · have fi : (chkF (joinT (x :: r)) != 0) = true := by rw [bne_iff_ne]; exact ci
      have HV := Lib.hid (sharedV_none (s := s) (by rw [hsh, if_neg (fun h => ci h.2.2.1)]))
      clear ca hsh hgt cs g0 gs ci
      go_enter Try.func31, Try.ntmps31
      go_wp2_with fail
      refine (rfLevels_any s _ hs).mono ?_
      rintro e w1 ⟨v, rfl, hown, hb⟩
      obtain ⟨b, off, cap, rfl, q1, q2, q3, q4⟩ := (StrsAt.of_owns hown).open hl.1
      have Q4 := Lib.hid q4
      have HL := Lib.hid hL
      have HN := Lib.hid hnn
      have ha : w1.cell? ⟨b, off, none⟩ = some (.string a) := q4 0 a (by rw [hL]; rfl)
      have hg : w1.cell? ⟨b, off + 1, none⟩ = some (.string g) := q4 1 g (by rw [hL]; rfl)
      clear q4 hown hL
      rw [hnn] at q1 ⊢
      clear hnn
      go_wp2_with fail
      refine (rfCheckFilter_any s _ hs).mono ?_
      rintro e w2 ⟨rfl, hb2⟩
      have HB2 := Lib.hid (hb.trans (hb2.mono hb.size))
      have ha2 := (hb2.cell (p := ⟨b, off, none⟩) q3).trans ha
      have hg2 := (hb2.cell (p := ⟨b, off + 1, none⟩) q3).trans hg
      go_wp2_with fail
      refine (rfSign_any g _ hgs).mono ?_
      rintro e w3 ⟨rfl, rfl⟩
      rw [HG.out]
      go_wp2_with fail
      refine (rfJoin_any (x :: r) _ _ (tail_two HL.out HN.out hn3 q1 q2 Q4.out hb2) (by simp) (by have := HN.out; rw [HL.out] at this; simp at this ⊢; omega) his).mono ?_
      rintro e w4 ⟨rfl, hb3⟩
      have HB3 := Lib.hid (HB2.out.trans (hb3.mono HB2.out.size))
      have hz3 : w.heap.size ≤ w4.heap.size := HB3.out.size
      go_wp2_with fail
      refine (rfCheckFilter_any _ _ his).mono ?_
      rintro e w5 ⟨rfl, hb4⟩
      go_wp2_with fail
      go_ret3
      exact ⟨by rw [HV.out]; rfl, HB3.out.trans (hb4.mono hz3)⟩

/-- Is it a filter, and no shared one? -/
def plainT (s : ByteArray) : Bool := decide (chkF s = 0) && (shared s).isNone

set_option maxHeartbeats 400000 in
theorem rfPlain_any (s : ByteArray) (w : World) (hs : s.size ≤ 1000000000) :
    Calls Try.prog 24 #[.string s] w fun e w' => e = .returned (.bool (plainT s)) ∧ Below w.heap.size w w' := by
  cases hsf : shared s with
  | some p =>
    obtain ⟨g, i⟩ := p
    have HS := Lib.hid (sharedV_some hsf)
    have HM := Lib.hid (show plainT s = false from by unfold plainT; rw [hsf]; simp)
    clear hsf
    by_cases cf : chkF s = 0
    · have ff : (chkF s == 0) = true := by rw [cf]; rfl
      clear cf
      go_enter Try.func24, Try.ntmps24
      go_wp2_with fail
      refine (rfShared_any s _ hs).mono ?_
      rintro e w1 ⟨rfl, hb⟩
      rw [HS.out]
      go_wp2_with fail
      refine (rfCheckFilter_any s _ hs).mono ?_
      rintro e w2 ⟨rfl, hb2⟩
      go_wp2_with fail
      go_ret
      exact ⟨ret_bool HM.out.symm, hb.trans (hb2.mono hb.size)⟩
    · have ff : (chkF s == 0) = false := by rw [beq_eq_false_iff_ne]; exact cf
      clear cf
      go_enter Try.func24, Try.ntmps24
      go_wp2_with fail
      refine (rfShared_any s _ hs).mono ?_
      rintro e w1 ⟨rfl, hb⟩
      rw [HS.out]
      go_wp2_with fail
      refine (rfCheckFilter_any s _ hs).mono ?_
      rintro e w2 ⟨rfl, hb2⟩
      go_wp2_with fail
      go_ret
      exact ⟨ret_bool HM.out.symm, hb.trans (hb2.mono hb.size)⟩
  | none =>
    have HS := Lib.hid (sharedV_none hsf)
    by_cases cf : chkF s = 0
    · have ff : (chkF s == 0) = true := by rw [cf]; rfl
      have HM := Lib.hid (show plainT s = true from by unfold plainT; rw [hsf, decide_eq_true cf]; rfl)
      clear cf hsf
      go_enter Try.func24, Try.ntmps24
      go_wp2_with fail
      refine (rfShared_any s _ hs).mono ?_
      rintro e w1 ⟨rfl, hb⟩
      rw [HS.out]
      go_wp2_with fail
      refine (rfCheckFilter_any s _ hs).mono ?_
      rintro e w2 ⟨rfl, hb2⟩
      go_wp2_with fail
      go_ret
      exact ⟨ret_bool HM.out.symm, hb.trans (hb2.mono hb.size)⟩
    · have ff : (chkF s == 0) = false := by rw [beq_eq_false_iff_ne]; exact cf
      have HM := Lib.hid (show plainT s = false from by unfold plainT; rw [hsf, decide_eq_false cf]; rfl)
      clear cf hsf
      go_enter Try.func24, Try.ntmps24
      go_wp2_with fail
      refine (rfShared_any s _ hs).mono ?_
      rintro e w1 ⟨rfl, hb⟩
      rw [HS.out]
      go_wp2_with fail
      refine (rfCheckFilter_any s _ hs).mono ?_
      rintro e w2 ⟨rfl, hb2⟩
      go_wp2_with fail
      go_ret
      exact ⟨ret_bool HM.out.symm, hb.trans (hb2.mono hb.size)⟩

end Go.Proofs.Ytmjpnpnmhacknaa
