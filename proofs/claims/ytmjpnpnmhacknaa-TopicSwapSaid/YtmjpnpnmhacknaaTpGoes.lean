/- Proved here: the contract of topic.goes. -/
import Derived.Test.YtmjpnpnmhacknaaTpCmp
namespace Go.Proofs.Ytmjpnpnmhacknaa
open Go.RowKit Go.Proofs.Tp

theorem strEq (x : ByteArray) (l : List UInt8) : (x.toList == l) = decide (x.data.toList = l) := by
  rw [Lib.toList_data]
  by_cases h : x.data.toList = l
  · rw [h]; simp
  · rw [decide_eq_false h, beq_eq_false_iff_ne]; exact h

theorem quiet_add {P : Program} {f : FuncId} {args : Array Value} {w : World} {a n : Nat} {v : Value}
    (h : Calls P f args (w.drewN (a + n)) fun e w' => e = .returned v ∧ ∃ m, w' = (w.drewN (a + n)).drewN m) :
    Calls P f args (w.drewN (a + n)) fun e w'' => e = .returned v ∧ ∃ m, w'' = w.drewN (a + m) :=
  h.mono fun _ _ ⟨he, m, hm⟩ => ⟨he, n + m, by rw [hm, World.drewN_drewN, Nat.add_assoc]⟩

theorem drewN_cell (w : World) (n : Nat) (a : Addr) : (w.drewN n).cell? a = w.cell? a := rfl

theorem tail_more {w : World} {b o c : Nat} {x : ByteArray} {L : List ByteArray} (hc : L.length + 1 ≤ c) (hm : c ≤ 9223372036854775807)
    (h : ∀ i y, (x :: L)[i]? = some y → w.cell? ⟨b, o + i, none⟩ = some (.string y)) (m : Nat) : StrsAt (w.drewN m) (.slice (some ⟨b, o + 1, none⟩) L.length (c - 1)) L :=
  ⟨_, _, rfl, by omega, by unfold maxLen; omega, .inr ⟨b, o + 1, rfl, fun i y hy => by rw [drewN_cell, Nat.add_assoc, Nat.add_comm 1 i]; exact h (i + 1) y hy⟩⟩

theorem tail_none (w : World) (a : Option Addr) (m : Nat) : StrsAt (w.drewN m) (.slice a 0 0) [] := ⟨_, _, rfl, Nat.le_refl _, Nat.zero_le _, .inl rfl⟩

set_option maxHeartbeats 1000000 in
set_option maxRecDepth 100000 in
theorem goes_any (F : List ByteArray) : ∀ (T : List ByteArray) (v1 v2 : Value) (w : World), StrsAt w v1 F → StrsAt w v2 T →
    Calls Try.prog 23 #[v1, v2] w fun e w' => e = .returned (.bool (goesL F T)) ∧ ∃ n, w' = w.drewN n := by
  induction F with
  | nil =>
    intro T v1 v2 w h1 h2
    obtain ⟨a, cap, rfl⟩ := h1.open_nil
    obtain ⟨a2, cap2, rfl, p1, p2, p3⟩ := h2
    go_enter Try.func23, Try.ntmps23
    go_wp2_with fail
    go_ret
    exact ⟨ret_bool (by cases T <;> rfl), 0, rfl⟩
  | cons f F ih =>
    intro T v1 v2 w h1 h2
    obtain ⟨b1, o1, c1, rfl, q1, q2, q3, q4⟩ := h1.open (by simp)
    have IH := Lib.hid ih
    clear ih h1
    have hf : w.cell? ⟨b1, o1, none⟩ = some (.string f) := q4 0 f rfl
    have hlf : ((F.length : Int) + 1 == 0) = false := by rw [beq_eq_false_iff_ne]; omega
    have Q4 := Lib.hid q4
    clear q4
    by_cases hs : f.data.toList = [35]
    · have hs1 : (f.toList == [35]) = true := by rw [strEq, decide_eq_true hs]
      have hr : goesL (f :: F) T = true := by unfold goesL; rw [if_pos hs]
      have HR := Lib.hid hr
      clear hs hr
      obtain ⟨a2, cap2, rfl, p1, p2, p3⟩ := h2
      go_enter Try.func23, Try.ntmps23
      go_wp2_with fail
      go_ret
      exact ⟨ret_bool HR.out.symm, 0, rfl⟩
    · have hs1 : (f.toList == [35]) = false := by rw [strEq, decide_eq_false hs]
      cases T with
      | nil =>
        obtain ⟨a2, cap2, rfl⟩ := h2.open_nil
        have hr : goesL (f :: F) [] = false := by unfold goesL; rw [if_neg hs]
        have HR := Lib.hid hr
        clear hs hr
        go_enter Try.func23, Try.ntmps23
        go_wp2_with fail
        go_quiet (fail)
        go_wp2_with fail
        go_ret
        exact ⟨ret_bool HR.out.symm, _, rfl⟩
      | cons x T =>
        obtain ⟨b2, o2, c2, rfl, r1, r2, r3, r4⟩ := h2.open (by simp)
        have hx : w.cell? ⟨b2, o2, none⟩ = some (.string x) := r4 0 x rfl
        have hlt : ((T.length : Int) + 1 == 0) = false := by rw [beq_eq_false_iff_ne]; omega
        have R4 := Lib.hid r4
        clear r4 h2
        have q1' : F.length + 1 ≤ c1 := q1
        have r1' : T.length + 1 ≤ c2 := r1
        by_cases h43 : f.data.toList = [43]
        · have h431 : (f.toList == [43]) = true := by rw [strEq, decide_eq_true h43]
          have h432 : (f.toList != [43]) = false := by unfold bne; rw [h431]; rfl
          have hr : goesL (f :: F) (x :: T) = goesL F T := by rw [goesL]; rw [if_neg hs, if_pos (.inl h43)]
          have HR := Lib.hid hr
          clear hs hr h43
          rcases Nat.lt_or_ge 1 c1 with e1 | e1
          · have e1i : ¬ c1 = 1 := by omega
            rcases Nat.lt_or_ge 1 c2 with e2 | e2
            · have e2i : ¬ c2 = 1 := by omega
              go_enter Try.func23, Try.ntmps23
              go_wp2_with fail
              go_quiet (fail)
              go_wp2_with fail
              go_quiet ((go_at_call 23; exact quiet_add (IH.out _ _ _ _ (tail_more q1 q2 Q4.out _) (tail_more r1 r2 R4.out _))))
              go_wp2_with fail
              go_ret
              exact ⟨ret_bool HR.out.symm, _, World.drewN_drewN _ _ _⟩
            · obtain rfl : c2 = 1 := by omega
              obtain rfl : T = [] := List.eq_nil_of_length_eq_zero (by omega)
              go_enter Try.func23, Try.ntmps23
              go_wp2_with fail
              go_quiet (fail)
              go_wp2_with fail
              go_quiet ((go_at_call 23; exact quiet_add (IH.out _ _ _ _ (tail_more q1 q2 Q4.out _) (tail_none _ _ _))))
              go_wp2_with fail
              go_ret
              exact ⟨ret_bool HR.out.symm, _, World.drewN_drewN _ _ _⟩
          · obtain rfl : c1 = 1 := by omega
            obtain rfl : F = [] := List.eq_nil_of_length_eq_zero (by omega)
            rcases Nat.lt_or_ge 1 c2 with e2 | e2
            · have e2i : ¬ c2 = 1 := by omega
              go_enter Try.func23, Try.ntmps23
              go_wp2_with fail
              go_quiet (fail)
              go_wp2_with fail
              go_quiet ((go_at_call 23; exact quiet_add (IH.out _ _ _ _ (tail_none _ _ _) (tail_more r1 r2 R4.out _))))
              go_wp2_with fail
              go_ret
              exact ⟨ret_bool HR.out.symm, _, World.drewN_drewN _ _ _⟩
            · obtain rfl : c2 = 1 := by omega
              obtain rfl : T = [] := List.eq_nil_of_length_eq_zero (by omega)
              go_enter Try.func23, Try.ntmps23
              go_wp2_with fail
              go_quiet (fail)
              go_wp2_with fail
              go_quiet ((go_at_call 23; exact quiet_add (IH.out _ _ _ _ (tail_none _ _ _) (tail_none _ _ _))))
              go_wp2_with fail
              go_ret
              exact ⟨ret_bool HR.out.symm, _, World.drewN_drewN _ _ _⟩
        · have h431 : (f.toList == [43]) = false := by rw [strEq, decide_eq_false h43]
          have h432 : (f.toList != [43]) = true := by unfold bne; rw [h431]; rfl
          by_cases hfx : f = x
          · have hfx1 : (f.toList == x.toList) = true := by rw [hfx]; simp
            have hfx2 : (f.toList != x.toList) = false := by rw [hfx]; simp
            have hr : goesL (f :: F) (x :: T) = goesL F T := by rw [goesL]; rw [if_neg hs, if_pos (.inr hfx)]
            have HR := Lib.hid hr
            clear hs hr h43 hfx
            rcases Nat.lt_or_ge 1 c1 with e1 | e1
            · have e1i : ¬ c1 = 1 := by omega
              rcases Nat.lt_or_ge 1 c2 with e2 | e2
              · have e2i : ¬ c2 = 1 := by omega
                go_enter Try.func23, Try.ntmps23
                go_wp2_with fail
                go_quiet (fail)
                go_wp2_with fail
                go_quiet ((go_at_call 23; exact quiet_add (IH.out _ _ _ _ (tail_more q1 q2 Q4.out _) (tail_more r1 r2 R4.out _))))
                go_wp2_with fail
                go_ret
                exact ⟨ret_bool HR.out.symm, _, World.drewN_drewN _ _ _⟩
              · obtain rfl : c2 = 1 := by omega
                obtain rfl : T = [] := List.eq_nil_of_length_eq_zero (by omega)
                go_enter Try.func23, Try.ntmps23
                go_wp2_with fail
                go_quiet (fail)
                go_wp2_with fail
                go_quiet ((go_at_call 23; exact quiet_add (IH.out _ _ _ _ (tail_more q1 q2 Q4.out _) (tail_none _ _ _))))
                go_wp2_with fail
                go_ret
                exact ⟨ret_bool HR.out.symm, _, World.drewN_drewN _ _ _⟩
            · obtain rfl : c1 = 1 := by omega
              obtain rfl : F = [] := List.eq_nil_of_length_eq_zero (by omega)
              rcases Nat.lt_or_ge 1 c2 with e2 | e2
              · have e2i : ¬ c2 = 1 := by omega
                go_enter Try.func23, Try.ntmps23
                go_wp2_with fail
                go_quiet (fail)
                go_wp2_with fail
                go_quiet ((go_at_call 23; exact quiet_add (IH.out _ _ _ _ (tail_none _ _ _) (tail_more r1 r2 R4.out _))))
                go_wp2_with fail
                go_ret
                exact ⟨ret_bool HR.out.symm, _, World.drewN_drewN _ _ _⟩
              · obtain rfl : c2 = 1 := by omega
                obtain rfl : T = [] := List.eq_nil_of_length_eq_zero (by omega)
                go_enter Try.func23, Try.ntmps23
                go_wp2_with fail
                go_quiet (fail)
                go_wp2_with fail
                go_quiet ((go_at_call 23; exact quiet_add (IH.out _ _ _ _ (tail_none _ _ _) (tail_none _ _ _))))
                go_wp2_with fail
                go_ret
                exact ⟨ret_bool HR.out.symm, _, World.drewN_drewN _ _ _⟩
          · have hfx0 : ¬ f.data.toList = x.data.toList := fun e => hfx (ba_ext e)
            have hfx1 : (f.toList == x.toList) = false := by rw [beq_eq_false_iff_ne, Lib.toList_data, Lib.toList_data]; exact hfx0
            have hfx2 : (f.toList != x.toList) = true := by unfold bne; rw [hfx1]; rfl
            have hr : goesL (f :: F) (x :: T) = false := by rw [goesL]; rw [if_neg hs, if_neg (by rintro (e | e); exact h43 e; exact hfx e)]
            have HR := Lib.hid hr
            clear hs hr h43 hfx hfx0
            go_enter Try.func23, Try.ntmps23
            go_wp2_with fail
            go_quiet (fail)
            go_wp2_with fail
            go_ret
            exact ⟨ret_bool HR.out.symm, _, rfl⟩
end Go.Proofs.Ytmjpnpnmhacknaa
