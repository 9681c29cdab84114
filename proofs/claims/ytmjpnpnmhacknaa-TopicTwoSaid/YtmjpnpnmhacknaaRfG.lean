/- Proved here: the contract of the reference's Match. -/
import Derived.Test.YtmjpnpnmhacknaaRfF
namespace Go.Proofs.Ytmjpnpnmhacknaa
open Go.RowKit Go.Proofs.Tp

theorem byte_beq (s : ByteArray) (h : 0 < s.size) (k : UInt8) : (((s[0]'h).toNat : Int) == (k.toNat : Int)) = decide (s[0]'h = k) := by
  by_cases e : s[0]'h = k
  · rw [e, decide_eq_true rfl]; simp
  · rw [decide_eq_false e, beq_eq_false_iff_ne]; intro x; exact e (UInt8.toNat.inj (by omega))

set_option maxHeartbeats 4000000 in
set_option maxRecDepth 1000000 in
theorem rfMatch_any (f t : ByteArray) (w : World) (hs : f.size ≤ 1000000000) (ht : t.size ≤ 1000000000) :
    Calls Try.prog 11 #[.string f, .string t] w fun e w' => e = .returned (.bool (matchT f t)) ∧ Below w.heap.size w w' := by
  have hm : matchT f t = if (shared f).isSome ∨ chkF f ≠ 0 ∨ chk t ≠ 0 then false
    else if t.data.toList.head? = some 36 ∧ ((levels f).head?.map (·.data.toList) = some [43] ∨ (levels f).head?.map (·.data.toList) = some [35]) then false
    else goesL (levels f) (levels t) := rfl
  by_cases hp : plainT f = true
  case neg =>
    have HP := Lib.hid (show plainT f = false from by simpa using hp)
    have HM := Lib.hid (show matchT f t = false from by
      rw [hm, if_pos]
      unfold plainT at hp
      by_cases cf : chkF f = 0
      · left
        cases hsf : shared f with
        | none => rw [cf, hsf] at hp; simp at hp
        | some p => rfl
      · exact .inr (.inl cf))
    clear hm hp
    go_enter Try.func11, Try.ntmps11
    go_wp2_with fail
    refine (rfPlain_any f _ hs).mono ?_
    rintro e w1 ⟨rfl, hb1⟩
    rw [HP.out]
    go_wp2_with fail
    go_ret
    exact ⟨ret_bool HM.out.symm, hb1⟩
  have HP := Lib.hid hp
  have cf : chkF f = 0 := by unfold plainT at hp; rw [Bool.and_eq_true, decide_eq_true_eq] at hp; exact hp.1
  have hsf : (shared f).isSome = false := by
    unfold plainT at hp; rw [Bool.and_eq_true] at hp
    cases hs : shared f with
    | none => rfl
    | some p => rw [hs] at hp; simp at hp
  by_cases ct : chk t = 0
  case neg =>
    have ft : (chk t != 0) = true := by rw [bne_iff_ne]; exact ct
    have HM := Lib.hid (show matchT f t = false from by rw [hm, if_pos (.inr (.inr ct))])
    clear hm hp cf hsf ct
    go_enter Try.func11, Try.ntmps11
    go_wp2_with fail
    refine (rfPlain_any f _ hs).mono ?_
    rintro e w1 ⟨rfl, hb1⟩
    rw [HP.out]
    go_wp2_with fail
    refine (rfCheck_any t _ ht).mono ?_
    rintro e w2 ⟨rfl, rfl⟩
    go_wp2_with fail
    go_ret
    exact ⟨ret_bool HM.out.symm, hb1⟩
  have ft : (chk t != 0) = false := by rw [ct]; rfl
  have hlf := levels_len f hs
  have hlt := levels_len t ht
  have hto := chk_size ct
  have hfo : 0 < f.size := Nat.pos_of_ne_zero (chkF_zero cf).1
  have hhe := head_eq t hto
  obtain ⟨x, r, hx⟩ : ∃ x r, levels f = x :: r := by
    match hL : levels f with
    | [] => rw [hL] at hlf; simp at hlf
    | x :: r => exact ⟨x, r, rfl⟩
  have hhx : (levels f).head?.map (·.data.toList) = some x.data.toList := by rw [hx]; rfl
  have h43 := first_sign cf hx hfo 43 (.inl rfl)
  have h35 := first_sign cf hx hfo 35 (.inr rfl)
  have b43 := byte_beq f hfo 43
  have b35 := byte_beq f hfo 35
  rw [show ((43 : UInt8).toNat : Int) = 43 from rfl] at b43
  rw [show ((35 : UInt8).toNat : Int) = 35 from rfl] at b35
  rw [if_neg (by rw [hsf]; rintro (h | h | h); exact absurd h (by simp); exact h cf; exact h ct), hhx] at hm
  have htoI : (0 : Int) < (t.size : Int) := by omega
  have hfoI : (0 : Int) < (f.size : Int) := by omega
  by_cases c36 : t[0].toNat = 36
  · have f36 : ((t[0].toNat : Int) == 36) = true := by rw [c36]; rfl
    by_cases c43 : f[0] = 43
    · rw [decide_eq_true c43] at b43
      have HM := Lib.hid (show matchT f t = false from by rw [hm, if_pos ⟨Eq.mpr hhe c36, .inl (by rw [h43.2 c43])⟩])
      clear hm hp cf hsf ct hhe hx hhx h43 h35 b35 c36 c43
      go_enter Try.func11, Try.ntmps11
      go_wp2_with fail
      refine (rfPlain_any f _ hs).mono ?_
      rintro e w1 ⟨rfl, hb1⟩
      rw [HP.out]
      go_wp2_with fail
      refine (rfCheck_any t _ ht).mono ?_
      rintro e w2 ⟨rfl, rfl⟩
      go_wp2_with fail
      go_ret
      exact ⟨ret_bool HM.out.symm, hb1⟩
    · rw [decide_eq_false c43] at b43
      by_cases c35 : f[0] = 35
      · rw [decide_eq_true c35] at b35
        have HM := Lib.hid (show matchT f t = false from by rw [hm, if_pos ⟨Eq.mpr hhe c36, .inr (by rw [h35.2 c35])⟩])
        clear hm hp cf hsf ct hhe hx hhx h43 h35 c36 c43 c35
        go_enter Try.func11, Try.ntmps11
        go_wp2_with fail
        refine (rfPlain_any f _ hs).mono ?_
        rintro e w1 ⟨rfl, hb1⟩
        rw [HP.out]
        go_wp2_with fail
        refine (rfCheck_any t _ ht).mono ?_
        rintro e w2 ⟨rfl, rfl⟩
        go_wp2_with fail
        go_ret
        exact ⟨ret_bool HM.out.symm, hb1⟩
      · rw [decide_eq_false c35] at b35
        have HM := Lib.hid (show matchT f t = goesL (levels f) (levels t) from by rw [hm, if_neg (by rintro ⟨_, h | h⟩; exact c43 (h43.1 (Option.some.inj h)); exact c35 (h35.1 (Option.some.inj h)))])
        clear hm hp cf hsf ct hhe hx hhx h43 h35 c36 c43 c35
        go_enter Try.func11, Try.ntmps11
        go_wp2_with fail
        refine (rfPlain_any f _ hs).mono ?_
        rintro e w1 ⟨rfl, hb1⟩
        rw [HP.out]
        go_wp2_with fail
        refine (rfCheck_any t _ ht).mono ?_
        rintro e w2 ⟨rfl, rfl⟩
        go_wp2_with fail
        refine (rfLevels_any f _ hs).mono ?_
        rintro e w3 ⟨v, rfl, hown, hb3⟩
        obtain ⟨p1, o1, c1, rfl, q1, q2, q3, q4⟩ := (StrsAt.of_owns hown).open hlf.1
        clear hown
        have Q4 := Lib.hid q4
        clear q4
        go_wp2_with fail
        refine (rfLevels_any t _ ht).mono ?_
        rintro e w4 ⟨v5, rfl, hown5, hb4⟩
        obtain ⟨p2, o2, c2, rfl, r1, r2, r3, r4⟩ := (StrsAt.of_owns hown5).open hlt.1
        clear hown5
        have R4 := Lib.hid r4
        have HB := Lib.hid ((hb1.trans (hb3.mono hb1.size)).trans (hb4.mono (Nat.le_trans hb1.size hb3.size)))
        clear r4
        go_wp2_with fail
        refine (rfGoes_walk (levels f) (levels t) p1 o1 c1 p2 o2 c2 _ _ _ rfl rfl q1 r1 q2 r2 (fun i y hy => (hb4.cell (p := ⟨p1, o1 + i, none⟩) q3).trans (Q4.out i y hy)) R4.out).mono ?_
        rintro e w6 ⟨rfl, n6, rfl⟩
        go_wp2_with fail
        go_ret
        exact ⟨ret_bool HM.out.symm, below_drewN HB.out _⟩
  · have f36 : ((t[0].toNat : Int) == 36) = false := by rw [beq_eq_false_iff_ne]; omega
    have HM := Lib.hid (show matchT f t = goesL (levels f) (levels t) from by rw [hm, if_neg (fun h => c36 (Eq.mp hhe h.1))])
    clear hm hp cf hsf ct hhe hx hhx h43 h35 b43 b35 c36
    go_enter Try.func11, Try.ntmps11
    go_wp2_with fail
    refine (rfPlain_any f _ hs).mono ?_
    rintro e w1 ⟨rfl, hb1⟩
    rw [HP.out]
    go_wp2_with fail
    refine (rfCheck_any t _ ht).mono ?_
    rintro e w2 ⟨rfl, rfl⟩
    go_wp2_with fail
    refine (rfLevels_any f _ hs).mono ?_
    rintro e w3 ⟨v, rfl, hown, hb3⟩
    obtain ⟨p1, o1, c1, rfl, q1, q2, q3, q4⟩ := (StrsAt.of_owns hown).open hlf.1
    clear hown
    have Q4 := Lib.hid q4
    clear q4
    go_wp2_with fail
    refine (rfLevels_any t _ ht).mono ?_
    rintro e w4 ⟨v5, rfl, hown5, hb4⟩
    obtain ⟨p2, o2, c2, rfl, r1, r2, r3, r4⟩ := (StrsAt.of_owns hown5).open hlt.1
    clear hown5
    have R4 := Lib.hid r4
    have HB := Lib.hid ((hb1.trans (hb3.mono hb1.size)).trans (hb4.mono (Nat.le_trans hb1.size hb3.size)))
    clear r4
    go_wp2_with fail
    refine (rfGoes_walk (levels f) (levels t) p1 o1 c1 p2 o2 c2 _ _ _ rfl rfl q1 r1 q2 r2 (fun i y hy => (hb4.cell (p := ⟨p1, o1 + i, none⟩) q3).trans (Q4.out i y hy)) R4.out).mono ?_
    rintro e w6 ⟨rfl, n6, rfl⟩
    go_wp2_with fail
    go_ret
    exact ⟨ret_bool HM.out.symm, below_drewN HB.out _⟩

end Go.Proofs.Ytmjpnpnmhacknaa
