/- Proved here: the contracts of crierlaw5's known, below, shared and place. -/
import Derived.Test.YtmjpnpnmhacknaaTpMatch
namespace Go.Proofs.Ytmjpnpnmhacknaa
open Go.RowKit Go.Proofs.Tp

theorem at_below {P : Program} {f : FuncId} {args : Array Value} {w w0 : World} {v : Value} (h : Calls P f args w fun e w' => e = .returned v ∧ Below w.heap.size w w') (hb : Below w0.heap.size w0 w) :
    Calls P f args w fun e w' => e = .returned v ∧ Below w0.heap.size w0 w' := h.mono fun _ _ ⟨he, h⟩ => ⟨he, hb.trans (h.mono hb.size)⟩

set_option maxHeartbeats 4000000 in
set_option maxRecDepth 1000000 in
theorem known_any (w : World) : Calls Try.prog 12 #[] w fun e w' => e = .returned (.bool true) ∧ Below w.heap.size w w' := by
  have y0 : matchT ⟨#[97, 47, 35]⟩ ⟨#[97]⟩ = true := by decide +kernel
  have y1 : matchT ⟨#[97, 47, 35]⟩ ⟨#[97, 47, 98, 47, 99]⟩ = true := by decide +kernel
  have y2 : matchT ⟨#[43]⟩ ⟨#[97]⟩ = true := by decide +kernel
  have y3 : matchT ⟨#[43, 47, 43]⟩ ⟨#[47]⟩ = true := by decide +kernel
  have y4 : matchT ⟨#[36, 97, 47, 43]⟩ ⟨#[36, 97, 47, 98]⟩ = true := by decide +kernel
  have y5 : matchT ⟨#[35]⟩ ⟨#[47]⟩ = true := by decide +kernel
  have y6 : matchT ⟨#[36, 115, 104, 97, 114, 101, 47, 43, 47, 97]⟩ ⟨#[36, 115, 104, 97, 114, 101, 47, 103, 47, 97]⟩ = true := by decide +kernel
  have n0 : matchT ⟨#[97, 47, 35]⟩ ⟨#[97, 98]⟩ = false := by decide +kernel
  have n1 : matchT ⟨#[43]⟩ ⟨#[47, 97]⟩ = false := by decide +kernel
  have n2 : matchT ⟨#[35]⟩ ⟨#[36, 97]⟩ = false := by decide +kernel
  have n3 : matchT ⟨#[43, 47, 98]⟩ ⟨#[36, 97, 47, 98]⟩ = false := by decide +kernel
  have n4 : matchT ⟨#[97]⟩ ⟨#[97, 47]⟩ = false := by decide +kernel
  have n5 : matchT ⟨#[97, 35]⟩ ⟨#[97, 35]⟩ = false := by decide +kernel
  have n6 : matchT ⟨#[36, 115, 104, 97, 114, 101, 47, 103, 47, 97]⟩ ⟨#[36, 115, 104, 97, 114, 101, 47, 103, 47, 97]⟩ = false := by decide +kernel
  have s0 : sharedV ⟨#[36, 115, 104, 97, 114, 101, 47, 103, 47, 97, 47, 43]⟩ = .tuple #[.string ⟨#[103]⟩, .string ⟨#[97, 47, 43]⟩, .bool true] := sharedV_some (by decide +kernel)
  have s1 : sharedV ⟨#[36, 115, 104, 97, 114, 101, 47, 43, 47, 97]⟩ = .tuple #[.string ⟨#[]⟩, .string ⟨#[]⟩, .bool false] := sharedV_none (by decide +kernel)
  have s2 : sharedV ⟨#[36, 115, 104, 97, 114, 101, 47, 103, 47]⟩ = .tuple #[.string ⟨#[]⟩, .string ⟨#[]⟩, .bool false] := sharedV_none (by decide +kernel)
  have c0 : cmpT ⟨#[97, 47, 98]⟩ ⟨#[97, 46, 98]⟩ = -1 := by decide +kernel
  have k0 : chk ⟨#[97, 47, 43]⟩ = 52 := by decide +kernel
  have k1 : chkF ⟨#[97, 47, 43, 47, 35]⟩ = 0 := by decide +kernel
  have l0 : (levels ⟨#[97, 47, 47, 98]⟩).length = 3 := by decide +kernel
  have hb : Below w.heap.size w w := Below.refl _ _
  go_enter Try.func12, Try.ntmps12
  go_wp2_with (first
    | (go_at_call 10; refine (at_below (match_any _ _ _ (by decide +kernel) (by decide +kernel)) hb).mono ?_; clear hb; rintro e u ⟨rfl, hb⟩)
    | (go_at_call 20; refine (at_below (shared_any _ _ (by decide +kernel)) hb).mono ?_; clear hb; rintro e u ⟨rfl, hb⟩)
    | (go_at_call 8; refine (at_below (compare_any _ _ _ (by decide +kernel) (by decide +kernel)) hb).mono ?_; clear hb; rintro e u ⟨rfl, hb⟩)
    | (go_at_call 15; refine (at_below (check_any _ _ (by decide +kernel)) hb).mono ?_; clear hb; rintro e u ⟨rfl, hb⟩)
    | (go_at_call 17; refine (at_below (checkFilter_any _ _ (by decide +kernel)) hb).mono ?_; clear hb; rintro e u ⟨rfl, hb⟩))
  refine (levels_any _ _ (by decide +kernel)).mono ?_
  rintro e u2 ⟨v, rfl, hown, hb2⟩
  obtain ⟨b, off, cap, rfl, q1, q2, q3, q4⟩ := (StrsAt.of_owns hown).open (by rw [l0]; decide)
  clear q4 hown
  rw [l0]
  have HB := Lib.hid (hb.trans (hb2.mono hb.size))
  clear hb hb2
  go_wp2
  go_ret
  exact ⟨rfl, HB.out⟩

/-- Do levels begin with others? -/
def preL : List ByteArray → List ByteArray → Bool
  | [], _ => true
  | _ :: _, [] => false
  | x :: a, y :: b => decide (x = y) && preL a b

theorem preL_len : ∀ (F L : List ByteArray), L.length < F.length → preL F L = false
  | [], _, h => by simp at h
  | _ :: _, [], _ => rfl
  | x :: a, y :: b, h => by
    show (decide (x = y) && preL a b) = false
    rw [preL_len a b (by simpa using h), Bool.and_false]

theorem preL_app : ∀ (F R : List ByteArray), preL F (F ++ R) = true
  | [], _ => rfl
  | x :: a, R => by
    show (decide (x = x) && preL a (a ++ R)) = true
    rw [preL_app a R, decide_eq_true rfl]; rfl

set_option maxHeartbeats 1000000 in
set_option maxRecDepth 1000000 in
theorem below_any (L F : List ByteArray) (v1 v2 : Value) (w : World) (h1 : StrsAt w v1 L) (h2 : StrsAt w v2 F) (hL : 0 < L.length) (hF : 0 < F.length) (hL1 : L.length ≤ 1000000001) :
    Calls Try.prog 13 #[v1, v2] w fun e w' => e = .returned (.bool (preL F L)) ∧ Below w.heap.size w w' := by
  obtain ⟨b1, o1, c1, rfl, q1, q2, q3, q4⟩ := h1.open hL
  obtain ⟨b2, o2, c2, rfl, r1, r2, r3, r4⟩ := h2.open hF
  have HA := Lib.hid q4
  have HB := Lib.hid r4
  clear q4 r4 h1 h2
  obtain ⟨n, hn⟩ : ∃ n, L.length = n := ⟨_, rfl⟩
  obtain ⟨m, hm⟩ : ∃ m, F.length = m := ⟨_, rfl⟩
  have HN := Lib.hid hn
  have HM := Lib.hid hm
  rw [hn] at hL hL1 q1 ⊢
  rw [hm] at hF r1 ⊢
  clear hn hm
  by_cases hnm : n < m
  · have hI : (n : Int) < (m : Int) := by omega
    have hB : decide (n < m) = true := by rw [decide_eq_true_eq]; omega
    have HE := Lib.hid (show preL F L = false from preL_len F L (by rw [HN.out, HM.out]; exact hnm))
    clear hnm
    go_enter Try.func13, Try.ntmps13
    go_wp2_with fail
    go_ret
    exact ⟨ret_bool HE.out.symm, Below.refl _ _⟩
  · have hI : ¬ ((n : Int) < (m : Int)) := by omega
    have hB : decide (n < m) = false := by rw [decide_eq_false_iff_not]; omega
    go_enter Try.func13, Try.ntmps13
    go_wp2_with fail
    go_loopg [5] m (fun g i wr => ∃ k, k + g = m ∧ i = .int .i64 (k : Nat) ∧ Aside (preL (F.drop k) (L.drop k) = preL F L) ∧ ∃ d, wr = w.drewN d)
    case atStart => exact ⟨0, by omega, rfl, rfl, 0, rfl⟩
    case round =>
      obtain ⟨k, hkg, rfl, HI, d, rfl⟩ := hrel
      have HKG := Lib.hid hkg
      by_cases hkm : k < m
      · have hkmI : (k : Int) < (m : Int) := by omega
        have hknI : (k : Int) < (n : Int) := by omega
        obtain ⟨x, hx⟩ : ∃ x, L[k]? = some x := ⟨L[k]'(by rw [HN.out]; omega), List.getElem?_eq_getElem _⟩
        obtain ⟨y, hy⟩ : ∃ y, F[k]? = some y := ⟨F[k]'(by rw [HM.out]; exact hkm), List.getElem?_eq_getElem _⟩
        have hcx : w.cell? ⟨b1, o1 + k, none⟩ = some (.string x) := HA.out k x hx
        have hcy : w.cell? ⟨b2, o2 + k, none⟩ = some (.string y) := HB.out k y hy
        have hp : preL F L = (decide (y = x) && preL (F.drop (k + 1)) (L.drop (k + 1))) := by rw [← HI.out, drop_at hx, drop_at hy]; rfl
        clear hx hy hkg
        by_cases hxy : y = x
        · have e1 : (x.toList == y.toList) = true := by rw [hxy]; simp
          have e2 : (x.toList != y.toList) = false := by rw [hxy]; simp
          have HE := Lib.hid (show preL (F.drop (k + 1)) (L.drop (k + 1)) = preL F L from by rw [hp, decide_eq_true hxy]; rfl)
          clear hp hxy
          go_wp2_with fail
          go_quiet (fail)
          go_wp2_with fail
          go_roundg (m - (k + 1))
          case measure => have := HKG.out; omega
          case rel => exact ⟨k + 1, by omega, by go_num, HE.out, _, rfl⟩
        · have hxy0 : ¬ x.data.toList = y.data.toList := fun e => hxy (ba_ext e.symm)
          have e1 : (x.toList == y.toList) = false := by rw [beq_eq_false_iff_ne, Lib.toList_data, Lib.toList_data]; exact hxy0
          have e2 : (x.toList != y.toList) = true := by unfold bne; rw [e1]; rfl
          have HE := Lib.hid (show preL F L = false from by rw [hp, decide_eq_false hxy]; rfl)
          clear hp hxy hxy0
          go_wp2_with fail
          go_quiet (fail)
          go_wp2_with fail
          go_ret
          exact ⟨ret_bool HE.out.symm, below_drewN (below_drewN (Below.refl _ _) _) _⟩
      · have hkmI : ¬ ((k : Int) < (m : Int)) := by omega
        have HE := Lib.hid (show preL F L = true from by rw [← HI.out, show F.drop k = [] from List.drop_eq_nil_of_le (by rw [HM.out]; omega)]; rfl)
        clear hkg
        go_wp2_with fail
        go_ret
        exact ⟨ret_bool HE.out.symm, below_drewN (Below.refl _ _) _⟩

set_option maxHeartbeats 400000 in
theorem lwShared_any (s : ByteArray) (w : World) (hs : s.size ≤ 1000000000) :
    Calls Try.prog 16 #[.string s] w fun e w' => e = .returned (.bool (shared s).isSome) ∧ Below w.heap.size w w' := by
  cases hsf : shared s with
  | none =>
    have HS := Lib.hid (sharedV_none hsf)
    clear hsf
    go_enter Try.func16, Try.ntmps16
    go_wp2_with fail
    refine (shared_any s _ hs).mono ?_
    rintro e w1 ⟨rfl, hb⟩
    rw [HS.out]
    go_wp2_with fail
    go_ret
    exact ⟨rfl, hb⟩
  | some p =>
    obtain ⟨g, i⟩ := p
    have HS := Lib.hid (sharedV_some hsf)
    clear hsf
    go_enter Try.func16, Try.ntmps16
    go_wp2_with fail
    refine (shared_any s _ hs).mono ?_
    rintro e w1 ⟨rfl, hb⟩
    rw [HS.out]
    go_wp2_with fail
    go_ret
    exact ⟨rfl, hb⟩

set_option maxHeartbeats 400000 in
theorem place_any (k n : Int) (w : World) (hn : 0 < n) (hn2 : n ≤ 1000000001) (_hk1 : -9223372036854775808 ≤ k) (_hk2 : k ≤ 9223372036854775807) :
    Calls Try.prog 18 #[.int .i64 k, .int .i64 n] w fun e w' => (∃ r : Nat, e = .returned (.int .i64 (r : Nat)) ∧ (r : Int) < n) ∧ w = w' := by
  have h1 := Int.tmod_lt_of_pos k hn
  have h2 : -n < k.tmod n := Int.lt_tmod_of_pos k hn
  go_enter Try.func18, Try.ntmps18
  go_wp2_with fail
  · have h3 : k.tmod n < 0 := by assumption
    go_ret
    exact ⟨⟨(k.tmod n + n).toNat, ret_int (by omega), by omega⟩, rfl⟩
  · have h3 : 0 ≤ k.tmod n := by assumption
    go_ret
    exact ⟨⟨(k.tmod n).toNat, ret_int (by omega), by omega⟩, rfl⟩

end Go.Proofs.Ytmjpnpnmhacknaa
