/- Proved here: the contracts of the reference's sign and Levels. -/
import Derived.Test.YtgnffkahlniehaaGreatTpAll
import Derived.Deep.AppendSrc
import Derived.Lib.AppendStr
import Derived.Laws.IdiomStrings
import Derived.Laws.BytesArg
namespace Go.Proofs.YtgnffkahlniehaaGreat
open Go.RowKit Go.Proofs.Tp

theorem byte_at (s : ByteArray) (i : Nat) (h : i < s.size) : s.data.toList[i]? = some s[i] := by
  have hl : i < s.data.toList.length := by simpa using h
  rw [List.getElem?_eq_getElem hl]; rfl

set_option maxHeartbeats 400000 in
set_option maxRecDepth 100000 in
theorem rfSign_any (s : ByteArray) (w : World) (hs : s.size ≤ 1000000000) :
    Calls Tryz.prog 60 #[.string s] w fun e w' => e = .returned (.bool (sign s)) ∧ w = w' := by
  go_enter Tryz.func60, Tryz.ntmps60
  go_wp2_with fail
  go_loopg [3] s.size (fun g i wr => ∃ k, k + g = s.size ∧ i = .int .i64 (k : Nat) ∧ Aside (signL (s.data.toList.drop k) = sign s) ∧ w = wr)
  case atStart => exact ⟨0, by omega, rfl, rfl, rfl⟩
  case round =>
    obtain ⟨k, hkg, rfl, HI, rfl⟩ := hrel
    have HKG := Lib.hid hkg
    cases gk with
    | zero =>
      have hkz : ¬ ((k : Int) < (s.size : Int)) := by omega
      have HF := Lib.hid (show sign s = false from by rw [← HI.out, drop_end s k (by omega)]; rfl)
      clear hkg
      go_wp2_with fail
      go_ret
      exact ⟨ret_bool HF.out.symm, rfl⟩
    | succ g =>
      have hkz : (k : Int) < (s.size : Int) := by omega
      have hkn : k < s.size := by omega
      clear hkg
      have hget : s.get! k = s[k] := by
        have := get_toList s k hkn
        rw [byte_at s k hkn] at this
        exact (Option.some.inj this).symm
      have hd := drop_get s k hkn
      rw [hget] at hd
      have HD := Lib.hid hd
      clear hd hget
      by_cases c43 : s[k].toNat = 43
      · have f43 : ((s[k].toNat : Int) == 43) = true := by rw [c43]; rfl
        have HF := Lib.hid (show sign s = true from by rw [← HI.out, HD.out, show s[k] = 43 from UInt8.toNat.inj c43]; rfl)
        clear c43
        go_wp2_with fail
        go_ret
        exact ⟨ret_bool HF.out.symm, rfl⟩
      · have f43 : ((s[k].toNat : Int) == 43) = false := by rw [beq_eq_false_iff_ne]; omega
        by_cases c35 : s[k].toNat = 35
        · have f35 : ((s[k].toNat : Int) == 35) = true := by rw [c35]; rfl
          have HF := Lib.hid (show sign s = true from by rw [← HI.out, HD.out, show s[k] = 35 from UInt8.toNat.inj c35]; rfl)
          clear c43 c35
          go_wp2_with fail
          go_ret
          exact ⟨ret_bool HF.out.symm, rfl⟩
        · have f35 : ((s[k].toNat : Int) == 35) = false := by rw [beq_eq_false_iff_ne]; omega
          have hn : signL (s.data.toList.drop (k + 1)) = sign s := by
            rw [← HI.out, HD.out]
            have n1 : s[k] ≠ 43 := fun e => c43 (by rw [e]; rfl)
            have n2 : s[k] ≠ 35 := fun e => c35 (by rw [e]; rfl)
            simp [signL, n1, n2]
          have HF := Lib.hid hn
          clear c43 c35 hn
          go_wp2_with fail
          go_roundg g
          case measure => omega
          case rel => exact ⟨k + 1, by have := HKG.out; omega, by go_num, HF.out, rfl⟩

set_option maxHeartbeats 400000 in
set_option maxRecDepth 100000 in
theorem rfLevels_any (s : ByteArray) (w : World) (hs : s.size ≤ 1000000000) :
    Calls Tryz.prog 70 #[.string s] w fun e w' => ∃ v, e = .returned v ∧ w'.ownsRow w.heap.size 9 1 v (levels s).length ((levels s).map Value.string) ∧ Below w.heap.size w w' := by
  obtain ⟨i0, hi, hz0, hz1, hz2⟩ := info_parts Tryz.info9
  go_enter Tryz.func70, Tryz.ntmps70
  go_wp2_with fail
  go_loopg [3, 4, 5] s.size (fun g v f i wr => ∃ k, k + g = s.size ∧ i = .int .i64 (k : Nat) ∧ f = .int .i64 ((lvTo s k).2 : Nat) ∧
      wr.ownsRow w.heap.size 9 1 v (lvTo s k).1.length ((lvTo s k).1.map Value.string) ∧ Below w.heap.size w wr)
  case atStart => exact ⟨0, by omega, rfl, rfl, World.ownsRow_nil _ _ _ _, Below.refl _ _⟩
  case round =>
    obtain ⟨k, hkg, rfl, rfl, hown, hbel⟩ := hrel
    have HKG := Lib.hid hkg
    have hle := lvTo_le s k
    have hsz := hbel.size
    cases gk with
    | zero =>
      obtain rfl : k = s.size := by omega
      clear hkg
      go_wp2_with (at_builtin; refine wpList_append_own _ rfl _ _ 31 rfl w.heap.size 9 i0 (.string ByteArray.empty) 1 16 Tryz.underlying31 hi hz0 hz1 hz2 rfl (by decide) _ _ _ rfl (hown.alloc _) ⟨wr.heap.size, 0, none⟩ 1 1 [.string (s.extract (lvTo s s.size).2 s.size)] rfl rfl ?d1 ?d2 ?d3 ?d4 ?d5 ?_)
      case d1 => exact cell_one_new _ _ _
      case d2 => simp [Value.oneCell']
      case d3 => unfold maxLen; omega
      case d4 => omega
      case d5 => simp; omega
      intro v' w1 hown1 hgrow _
      have h1 := hown.alloc (.cells #[.string (s.extract (lvTo s s.size).2 s.size)] 9)
      go_wp2_with fail
      go_ret
      refine ⟨_, rfl, ?_, (hbel.alloc (by omega) _).grown hgrow (by simp; omega) (fun k e => by have := (h1.lt _ e).1; omega)⟩
      simpa [levels] using hown1
    | succ g =>
      have hkz : (k : Int) < (s.size : Int) := by omega
      have hkn : k < s.size := by omega
      clear hkg
      have hb47 := byte_at s k hkn
      by_cases c47 : s[k].toNat = 47
      · have f47 : ((s[k].toNat : Int) == 47) = true := by rw [c47]; rfl
        have hto : lvTo s (k + 1) = ((lvTo s k).1 ++ [s.extract (lvTo s k).2 k], k + 1) := by
          rw [lvTo_succ]; unfold lvStep; rw [if_pos (by rw [hb47, show s[k] = 47 from UInt8.toNat.inj c47])]
        have HTO := Lib.hid hto
        clear hto hb47 c47
        go_wp2_with (at_builtin; refine wpList_append_own _ rfl _ _ 31 rfl w.heap.size 9 i0 (.string ByteArray.empty) 1 16 Tryz.underlying31 hi hz0 hz1 hz2 rfl (by decide) _ _ _ rfl (hown.alloc _) ⟨wr.heap.size, 0, none⟩ 1 1 [.string (s.extract (lvTo s k).2 k)] rfl rfl ?c1 ?c2 ?c3 ?c4 ?c5 ?_)
        case c1 => exact cell_one_new _ _ _
        case c2 => simp [Value.oneCell']
        case c3 => unfold maxLen; omega
        case c4 => omega
        case c5 => simp; omega
        intro v' w1 hown1 hgrow _
        go_wp2_with fail
        go_roundg g
        case measure => omega
        case rel =>
          have h1 := hown.alloc (.cells #[.string (s.extract (lvTo s k).2 k)] 9)
          refine ⟨k + 1, by have := HKG.out; omega, by go_num, ?_, ?_, ?_⟩
          · rw [HTO.out]; simp
          · rw [HTO.out]; simpa using hown1
          · exact (hbel.alloc (by omega) _).grown hgrow (by simp; omega) (fun k e => by have := (h1.lt _ e).1; omega)
      · have f47 : ((s[k].toNat : Int) == 47) = false := by rw [beq_eq_false_iff_ne]; omega
        have hto : lvTo s (k + 1) = lvTo s k := lvTo_high s k (by rw [hb47]; intro e; exact c47 (by rw [Option.some.inj e]; rfl))
        have HTO := Lib.hid hto
        clear hto hb47 c47
        go_wp2_with fail
        go_roundg g
        case measure => omega
        case rel => exact ⟨k + 1, by have := HKG.out; omega, by go_num, by rw [HTO.out], by rw [HTO.out]; exact hown, hbel⟩

end Go.Proofs.YtgnffkahlniehaaGreat

/- Proved here: the contract of the reference's more. -/
namespace Go.Proofs.YtgnffkahlniehaaGreat
open Go.RowKit Go.Proofs.Tp

def moreN (c : Nat) : Int × Nat × Nat := match need c with
  | none => (-1, 0, 0)
  | some [] => (0, 0, 0)
  | some (b :: p) => ((p.length : Int) + 1, b.1, b.2)

def moreV (c : Nat) : Value := .tuple #[.int .i64 (moreN c).1, .int .u8 ((moreN c).2.1 : Nat), .int .u8 ((moreN c).2.2 : Nat)]

theorem moreV_none {c : Nat} (h : need c = none) : moreV c = .tuple #[.int .i64 (-1), .int .u8 0, .int .u8 0] := by unfold moreV moreN; rw [h]; rfl
theorem moreV_zero {c : Nat} (h : need c = some []) : moreV c = .tuple #[.int .i64 0, .int .u8 0, .int .u8 0] := by unfold moreV moreN; rw [h]; rfl
theorem moreV_cons {c : Nat} {b : Nat × Nat} {p : List (Nat × Nat)} (h : need c = some (b :: p)) : moreV c = .tuple #[.int .i64 ((p.length : Int) + 1), .int .u8 (b.1 : Nat), .int .u8 (b.2 : Nat)] := by unfold moreV moreN; rw [h]

set_option maxHeartbeats 4000000 in
set_option maxRecDepth 100000 in
theorem more_any (c : Nat) (w : World) (hc : c < 256) (h0 : c ≠ 0) :
    Calls Tryz.prog 82 #[.int .u8 (c : Nat)] w fun e w' => e = .returned (moreV c) ∧ w = w' := by
  by_cases r0 : c < 128
  · have HV := Lib.hid (moreV_zero (show need c = some [] from by unfold need; rw [if_neg h0, if_pos r0]))
    have hI : (c : Int) < 128 := by omega
    have k224 : ((c : Int) == 224) = false := by rw [beq_eq_false_iff_ne]; omega
    have k237 : ((c : Int) == 237) = false := by rw [beq_eq_false_iff_ne]; omega
    have k240 : ((c : Int) == 240) = false := by rw [beq_eq_false_iff_ne]; omega
    have k244 : ((c : Int) == 244) = false := by rw [beq_eq_false_iff_ne]; omega
    go_enter Tryz.func82, Tryz.ntmps82
    go_wp2
    go_ret3
    exact ⟨by rw [HV.out]; rfl, rfl⟩
  by_cases r1 : c < 194
  · have HV := Lib.hid (moreV_none (show need c = none from by unfold need; rw [if_neg h0, if_neg r0, if_pos r1]))
    have hI : (c : Int) < 194 := by omega
    have hI2 : (128 : Int) ≤ (c : Int) := by omega
    have k224 : ((c : Int) == 224) = false := by rw [beq_eq_false_iff_ne]; omega
    have k237 : ((c : Int) == 237) = false := by rw [beq_eq_false_iff_ne]; omega
    have k240 : ((c : Int) == 240) = false := by rw [beq_eq_false_iff_ne]; omega
    have k244 : ((c : Int) == 244) = false := by rw [beq_eq_false_iff_ne]; omega
    go_enter Tryz.func82, Tryz.ntmps82
    go_wp2
    go_ret3
    exact ⟨by rw [HV.out]; rfl, rfl⟩
  by_cases r2 : c < 224
  · have HV := Lib.hid (moreV_cons (show need c = some [(128, 191)] from by unfold need; rw [if_neg h0, if_neg r0, if_neg r1, if_pos r2]))
    have hI : (c : Int) < 224 := by omega
    have hI2 : (194 : Int) ≤ (c : Int) := by omega
    have k224 : ((c : Int) == 224) = false := by rw [beq_eq_false_iff_ne]; omega
    have k237 : ((c : Int) == 237) = false := by rw [beq_eq_false_iff_ne]; omega
    have k240 : ((c : Int) == 240) = false := by rw [beq_eq_false_iff_ne]; omega
    have k244 : ((c : Int) == 244) = false := by rw [beq_eq_false_iff_ne]; omega
    go_enter Tryz.func82, Tryz.ntmps82
    go_wp2
    go_ret3
    exact ⟨by rw [HV.out]; rfl, rfl⟩
  by_cases e1 : c = 224
  · subst e1
    have HV := Lib.hid (moreV_cons (show need 224 = some [(160, 191), (128, 191)] from rfl))
    go_enter Tryz.func82, Tryz.ntmps82
    go_wp2
    go_ret3
    exact ⟨by rw [HV.out]; rfl, rfl⟩
  by_cases e2 : c = 237
  · subst e2
    have HV := Lib.hid (moreV_cons (show need 237 = some [(128, 159), (128, 191)] from rfl))
    go_enter Tryz.func82, Tryz.ntmps82
    go_wp2
    go_ret3
    exact ⟨by rw [HV.out]; rfl, rfl⟩
  by_cases r3 : c < 240
  · have HV := Lib.hid (moreV_cons (show need c = some [(128, 191), (128, 191)] from by unfold need; rw [if_neg h0, if_neg r0, if_neg r1, if_neg r2, if_neg e1, if_neg e2, if_pos r3]))
    have hI : (c : Int) < 240 := by omega
    have hI2 : (225 : Int) ≤ (c : Int) := by omega
    have k224 : ((c : Int) == 224) = false := by rw [beq_eq_false_iff_ne]; omega
    have k237 : ((c : Int) == 237) = false := by rw [beq_eq_false_iff_ne]; omega
    have k240 : ((c : Int) == 240) = false := by rw [beq_eq_false_iff_ne]; omega
    have k244 : ((c : Int) == 244) = false := by rw [beq_eq_false_iff_ne]; omega
    go_enter Tryz.func82, Tryz.ntmps82
    go_wp2
    go_ret3
    exact ⟨by rw [HV.out]; rfl, rfl⟩
  by_cases e3 : c = 240
  · subst e3
    have HV := Lib.hid (moreV_cons (show need 240 = some [(144, 191), (128, 191), (128, 191)] from rfl))
    go_enter Tryz.func82, Tryz.ntmps82
    go_wp2
    go_ret3
    exact ⟨by rw [HV.out]; rfl, rfl⟩
  by_cases r4 : c < 244
  · have HV := Lib.hid (moreV_cons (show need c = some [(128, 191), (128, 191), (128, 191)] from by unfold need; rw [if_neg h0, if_neg r0, if_neg r1, if_neg r2, if_neg e1, if_neg e2, if_neg r3, if_neg e3, if_pos r4]))
    have hI : (c : Int) < 244 := by omega
    have hI2 : (241 : Int) ≤ (c : Int) := by omega
    have k224 : ((c : Int) == 224) = false := by rw [beq_eq_false_iff_ne]; omega
    have k237 : ((c : Int) == 237) = false := by rw [beq_eq_false_iff_ne]; omega
    have k240 : ((c : Int) == 240) = false := by rw [beq_eq_false_iff_ne]; omega
    have k244 : ((c : Int) == 244) = false := by rw [beq_eq_false_iff_ne]; omega
    go_enter Tryz.func82, Tryz.ntmps82
    go_wp2
    go_ret3
    exact ⟨by rw [HV.out]; rfl, rfl⟩
  by_cases e4 : c = 244
  · subst e4
    have HV := Lib.hid (moreV_cons (show need 244 = some [(128, 143), (128, 191), (128, 191)] from rfl))
    go_enter Tryz.func82, Tryz.ntmps82
    go_wp2
    go_ret3
    exact ⟨by rw [HV.out]; rfl, rfl⟩
  · have HV := Lib.hid (moreV_none (show need c = none from by unfold need; rw [if_neg h0, if_neg r0, if_neg r1, if_neg r2, if_neg e1, if_neg e2, if_neg r3, if_neg e3, if_neg r4, if_neg e4]))
    have hI2 : (245 : Int) ≤ (c : Int) := by omega
    have hI : (c : Int) < 256 := by omega
    have k224 : ((c : Int) == 224) = false := by rw [beq_eq_false_iff_ne]; omega
    have k237 : ((c : Int) == 237) = false := by rw [beq_eq_false_iff_ne]; omega
    have k240 : ((c : Int) == 240) = false := by rw [beq_eq_false_iff_ne]; omega
    have k244 : ((c : Int) == 244) = false := by rw [beq_eq_false_iff_ne]; omega
    go_enter Tryz.func82, Tryz.ntmps82
    go_wp2
    go_ret3
    exact ⟨by rw [HV.out]; rfl, rfl⟩

theorem utf_len : ∀ (q : List (Nat × Nat)) (l : List UInt8), l.length < q.length → utf q l = false
  | [], _, h => by simp at h
  | _ :: _, [], _ => utf_short _ _
  | b :: q, c :: l, h => by rw [utf_cons, utf_len q l (by simpa using h), Bool.and_false]

theorem need_tail {c : Nat} {b : Nat × Nat} {p : List (Nat × Nat)} (h : need c = some (b :: p)) : (∀ x, x ∈ p → x = (128, 191)) ∧ b.1 < 256 ∧ b.2 < 256 ∧ p.length < 3 := by
  unfold need at h
  repeat' split at h
  all_goals first
    | (cases h; done)
    | (injection h with h; cases h; refine ⟨?_, by decide, by decide, by decide⟩; intro x hx; simp at hx; try exact hx)

theorem get_at' (s : ByteArray) (k : Nat) (h : k < s.size) : s.get! k = s[k] := by
  have := get_toList s k h
  rw [byte_at s k h] at this
  exact (Option.some.inj this).symm

end Go.Proofs.YtgnffkahlniehaaGreat

/- Proved here: the contract of the reference's Text. -/
namespace Go.Proofs.YtgnffkahlniehaaGreat
open Go.RowKit Go.Proofs.Tp

/-- What is still to come of a code point: j bytes have come, q bounds are left. -/
def Left (s : ByteArray) (i n j : Nat) (q : List (Nat × Nat)) (lo hi : Nat) : Prop :=
  j + q.length = n ∧ (∀ b r, q = b :: r → (lo, hi) = b ∧ ∀ x, x ∈ r → x = (128, 191)) ∧ utf q (s.data.toList.drop (i + 1 + j)) = utf [] s.data.toList

theorem Left.step {s : ByteArray} {i n j lo hi : Nat} {q : List (Nat × Nat)} (h : Left s i n j q lo hi) (hj : j < n) (hl : i + 1 + j < s.size) :
    if lo ≤ (s[i + 1 + j]'hl).toNat ∧ (s[i + 1 + j]'hl).toNat ≤ hi then ∃ q', Left s i n (j + 1) q' 128 191 else utf [] s.data.toList = false := by
  obtain ⟨h1, h2, h3⟩ := h
  cases q with
  | nil => simp at h1; omega
  | cons b r =>
    obtain ⟨h4, h5⟩ := h2 b r rfl
    rw [utf_step, get_at' s _ hl] at h3
    subst h4
    simp only at h3
    by_cases c : lo ≤ (s[i + 1 + j]'hl).toNat ∧ (s[i + 1 + j]'hl).toNat ≤ hi
    · rw [if_pos c]
      rw [if_pos ⟨hl, c⟩] at h3
      refine ⟨r, by simp at h1; omega, ?_, by rw [← Nat.add_assoc]; exact h3⟩
      intro b' r' e
      subst e
      exact ⟨(h5 b' List.mem_cons_self).symm, fun x hx => h5 x (List.mem_cons_of_mem _ hx)⟩
    · rw [if_neg c]
      rw [if_neg (fun x => c x.2)] at h3
      exact h3.symm

set_option maxHeartbeats 2000000 in
set_option maxRecDepth 1000000 in
theorem rfText_any (s : ByteArray) (w : World) (hs : s.size ≤ 1000000000) :
    Calls Tryz.prog 59 #[.string s] w fun e w' => e = .returned (.bool (isText s)) ∧ w = w' := by
  by_cases hl : s.size ≤ 65535
  case neg =>
    have hlI : (65535 : Int) < (s.size : Int) := by omega
    have HF := Lib.hid (show isText s = false from by unfold isText; rw [decide_eq_false hl]; rfl)
    clear hl
    go_enter Tryz.func59, Tryz.ntmps59
    go_wp2_with fail
    go_ret
    exact ⟨ret_bool HF.out.symm, rfl⟩
  have hlI : ¬ ((65535 : Int) < (s.size : Int)) := by omega
  have HT := Lib.hid (show isText s = utf [] s.data.toList from by unfold isText; rw [decide_eq_true hl]; rfl)
  go_enter Tryz.func59, Tryz.ntmps59
  go_wp2_with fail
  go_loopg [3] s.size (fun g i wr => ∃ k, k + g = s.size ∧ i = .int .i64 (k : Nat) ∧ Aside (utf [] (s.data.toList.drop k) = utf [] s.data.toList) ∧ w = wr)
  case atStart => exact ⟨0, by omega, rfl, rfl, rfl⟩
  case round =>
    obtain ⟨k, hkg, rfl, HI, rfl⟩ := hrel
    have HKG := Lib.hid hkg
    cases gk with
    | zero =>
      have hkz : ¬ ((k : Int) < (s.size : Int)) := by omega
      have HF := Lib.hid (show isText s = true from by rw [HT.out, ← HI.out, drop_end s k (by omega)]; rfl)
      clear hkg
      go_wp2_with fail
      go_ret
      exact ⟨ret_bool HF.out.symm, rfl⟩
    | succ g =>
      have hkz : (k : Int) < (s.size : Int) := by omega
      have hkn : k < s.size := by omega
      clear hkg
      have hd := drop_get s k hkn
      rw [get_at' s k hkn] at hd
      have hu : utf [] s.data.toList = match need s[k].toNat with | none => false | some p => utf p (s.data.toList.drop (k + 1)) := by
        rw [← HI.out, hd, utf_nil]; rfl
      clear hd
      by_cases c0 : s[k].toNat = 0
      · have f0 : ((s[k].toNat : Int) == 0) = true := by rw [c0]; rfl
        rw [c0] at hu
        have HF := Lib.hid (show isText s = false from by rw [HT.out, hu]; rfl)
        clear c0 hu
        go_wp2_with fail
        go_ret
        exact ⟨ret_bool HF.out.symm, rfl⟩
      have f0 : ((s[k].toNat : Int) == 0) = false := by rw [beq_eq_false_iff_ne]; omega
      have hlt := s[k].toNat_lt
      have HC := Lib.hid (fun W => more_any s[k].toNat W hlt c0)
      clear c0 hlt
      cases hn : need s[k].toNat with
      | none =>
        rw [hn] at hu
        have HF := Lib.hid (show isText s = false from by rw [HT.out, hu])
        have HV := Lib.hid (moreV_none hn)
        clear hn hu
        go_wp2_with fail
        refine (HC.out _).mono ?_
        rintro e w1 ⟨rfl, rfl⟩
        rw [HV.out]
        go_wp2_with fail
        go_ret
        exact ⟨ret_bool HF.out.symm, rfl⟩
      | some q =>
        rw [hn] at hu
        simp only at hu
        obtain ⟨n, lo, hi, hV, hnl, hlo, hhi, hn3, hq⟩ : ∃ n lo hi : Nat, moreV s[k].toNat = .tuple #[.int .i64 (n : Nat), .int .u8 (lo : Nat), .int .u8 (hi : Nat)] ∧ q.length = n ∧ lo < 256 ∧ hi < 256 ∧ n ≤ 3 ∧ (∀ b r, q = b :: r → (lo, hi) = b ∧ ∀ x, x ∈ r → x = (128, 191)) := by
          cases q with
          | nil => exact ⟨0, 0, 0, moreV_zero hn, rfl, by omega, by omega, by omega, fun b r e => by cases e⟩
          | cons b p =>
            obtain ⟨t1, t2, t3, t4⟩ := need_tail hn
            exact ⟨p.length + 1, b.1, b.2, by rw [moreV_cons hn]; rfl, rfl, t2, t3, by omega, fun b' r e => by cases e; exact ⟨rfl, t1⟩⟩
        have HV := Lib.hid hV
        clear hV hn
        have hloI : (lo : Int) < 256 := by omega
        have hhiI : (hi : Int) < 256 := by omega
        have hn3I : (n : Int) ≤ 3 := by omega
        have hkb : (k : Int) ≤ 65535 := by omega
        by_cases c1 : k + n < s.size
        case neg =>
          have c1I : (s.size : Int) ≤ (k : Int) + (n : Int) := by omega
          have HF := Lib.hid (show isText s = false from by rw [HT.out, hu]; exact utf_len _ _ (by rw [List.length_drop, hnl]; simp; omega))
          have hnneg : ¬ ((n : Int) < 0) := by omega
          clear hu hq c1 hnl
          go_wp2_with fail
          refine (HC.out _).mono ?_
          rintro e w1 ⟨rfl, rfl⟩
          rw [HV.out]
          go_wp2_with fail
          go_ret
          exact ⟨ret_bool HF.out.symm, rfl⟩
        have c1I : ¬ ((s.size : Int) ≤ (k : Int) + (n : Int)) := by omega
        have hnneg : ¬ ((n : Int) < 0) := by omega
        have HL := Lib.hid (show Left s k n 0 q lo hi from ⟨by rw [hnl]; omega, hq, hu.symm⟩)
        clear hu hq hnl
        go_wp2_with fail
        refine (HC.out _).mono ?_
        rintro e w1 ⟨rfl, rfl⟩
        rw [HV.out]
        go_wp2_with fail
        go_loopg [5, 6, 7] (n + 1) (fun g2 l h j wr => ∃ (a b c : Nat) (q : List (Nat × Nat)), c + g2 = n + 1 ∧ l = .int .u8 (a : Nat) ∧ h = .int .u8 (b : Nat) ∧ j = .int .i64 ((c : Int) + 1) ∧ a < 256 ∧ b < 256 ∧ Aside (Left s k n c q a b) ∧ w = wr)
        case atStart => exact ⟨lo, hi, 0, q, by omega, rfl, rfl, rfl, hlo, hhi, HL.out, rfl⟩
        case round =>
          obtain ⟨a, b, c, q', hcg, rfl, rfl, rfl, ha, hb, HJ, rfl⟩ := hrel
          have HCG := Lib.hid hcg
          clear hcg
          by_cases hc : c < n
          · have hcI : (c : Int) + 1 ≤ (n : Int) := by omega
            have hkc : k + 1 + c < s.size := by omega
            have hst := HJ.out.step hc hkc
            have hidx : ((k : Int) + ((c : Int) + 1)).toNat = k + 1 + c := by omega
            by_cases hin : a ≤ (s[k + 1 + c]'hkc).toNat ∧ (s[k + 1 + c]'hkc).toNat ≤ b
            · rw [if_pos hin] at hst
              obtain ⟨q2, hq2⟩ := hst
              have HQ := Lib.hid hq2
              clear hq2
              go_wp2_with fail
              go_roundg (n - c)
              case measure => have := HCG.out; omega
              case rel => exact ⟨128, 191, c + 1, q2, by omega, by go_num, by go_num, by go_num, by omega, by omega, HQ.out, rfl⟩
            · rw [if_neg hin] at hst
              have HF := Lib.hid (show isText s = false from by rw [HT.out]; exact hst)
              clear hst
              go_wp2_with fail
              all_goals
                go_ret
                exact ⟨ret_bool HF.out.symm, rfl⟩
          · have hcI : ¬ ((c : Int) + 1 ≤ (n : Int)) := by omega
            obtain rfl : c = n := by have := HJ.out.1; omega
            have hu := HJ.out.2.2
            have hq0 : q' = [] := List.eq_nil_of_length_eq_zero (by have := HJ.out.1; omega)
            subst hq0
            have HU := Lib.hid hu
            clear hu hc
            go_wp2_with fail
            go_roundg (s.size - (k + c + 1))
            case measure => have := HKG.out; omega
            case rel => exact ⟨k + c + 1, by omega, by go_num, by show _ = _; rw [← HU.out]; congr 2; omega, rfl⟩

end Go.Proofs.YtgnffkahlniehaaGreat

/- Proved here: the contracts of the reference's Check and CheckFilter. -/
namespace Go.Proofs.YtgnffkahlniehaaGreat
open Go.RowKit Go.Proofs.Tp

theorem textE_zero (s : ByteArray) : textE s = 0 ↔ s.size ≠ 0 ∧ isText s = true := by
  unfold textE
  by_cases h : s.size = 0
  · simp [h]
  · by_cases h2 : isText s = true
    · simp [h, h2]
    · simp [h, h2]

theorem textE_50 {s : ByteArray} (h : s.size = 0) : textE s = 50 := by unfold textE; rw [if_pos h]
theorem textE_51 {s : ByteArray} (h : s.size ≠ 0) (h2 : isText s = false) : textE s = 51 := by unfold textE; rw [if_neg h, h2]; rfl
theorem textE_ok {s : ByteArray} (h : s.size ≠ 0) (h2 : isText s = true) : textE s = 0 := by unfold textE; rw [if_neg h, if_pos h2]

set_option maxHeartbeats 400000 in
theorem rfCheck_any (s : ByteArray) (w : World) (hs : s.size ≤ 1000000000) :
    Calls Tryz.prog 29 #[.string s] w fun e w' => e = .returned (.int .i64 (chk s)) ∧ w = w' := by
  by_cases h0 : s.size = 0
  · have f0 : ((s.size : Int) == 0) = true := by rw [h0]; rfl
    have HF := Lib.hid (show chk s = 50 from by unfold chk; rw [textE_50 h0]; rfl)
    clear h0
    go_enter Tryz.func29, Tryz.ntmps29
    go_wp2_with fail
    go_ret
    exact ⟨ret_int HF.out.symm, rfl⟩
  · have f0 : ((s.size : Int) == 0) = false := by rw [beq_eq_false_iff_ne]; omega
    cases ht : isText s with
    | false =>
      have HF := Lib.hid (show chk s = 51 from by unfold chk; rw [textE_51 h0 ht]; rfl)
      have HT := Lib.hid ht
      clear h0 ht
      go_enter Tryz.func29, Tryz.ntmps29
      go_wp2_with fail
      refine (rfText_any s _ hs).mono ?_
      rintro e w1 ⟨rfl, rfl⟩
      rw [HT.out]
      go_wp2_with fail
      go_ret
      exact ⟨ret_int HF.out.symm, rfl⟩
    | true =>
      have HT := Lib.hid ht
      have HF := Lib.hid (show chk s = if sign s then 52 else 0 from by unfold chk; rw [textE_ok h0 ht]; rfl)
      clear h0 ht
      cases hg : sign s
      · have HG := Lib.hid hg
        clear hg
        go_enter Tryz.func29, Tryz.ntmps29
        go_wp2_with fail
        refine (rfText_any s _ hs).mono ?_
        rintro e w1 ⟨rfl, rfl⟩
        rw [HT.out]
        go_wp2_with fail
        refine (rfSign_any s _ hs).mono ?_
        rintro e w1 ⟨rfl, rfl⟩
        rw [HG.out]
        go_wp2_with fail
        go_ret
        exact ⟨ret_int (by rw [HF.out, HG.out]; rfl), rfl⟩
      · have HG := Lib.hid hg
        clear hg
        go_enter Tryz.func29, Tryz.ntmps29
        go_wp2_with fail
        refine (rfText_any s _ hs).mono ?_
        rintro e w1 ⟨rfl, rfl⟩
        rw [HT.out]
        go_wp2_with fail
        refine (rfSign_any s _ hs).mono ?_
        rintro e w1 ⟨rfl, rfl⟩
        rw [HG.out]
        go_wp2_with fail
        go_ret
        exact ⟨ret_int (by rw [HF.out, HG.out]; rfl), rfl⟩

/-- No text among a slice's is greater than the whole. -/
theorem level_size (s x : ByteArray) (k : Nat) (h : (levels s)[k]? = some x) : x.size ≤ s.size := by
  have hj := join_levels s
  have hx : x.data.toList ∈ (levels s).map (·.data.toList) := List.mem_map_of_mem (List.mem_of_getElem? h)
  have key : ∀ (L : List (List UInt8)) (y : List UInt8), y ∈ L → y.length ≤ (Lib.join L [47]).length := by
    intro L
    induction L with
    | nil => intro y hy; simp at hy
    | cons z r ih =>
      intro y hy
      rcases List.mem_cons.1 hy with rfl | hy
      · rw [Lib.join_cons]; simp
      · cases r with
        | nil => simp at hy
        | cons z2 r2 =>
          have := ih y hy
          rw [Lib.join_cons] at this ⊢
          simp only [Lib.joinTail, List.map_cons, List.flatten_cons, List.length_append, List.length_cons, List.length_nil] at this ⊢
          omega
  have := key _ _ hx
  rw [hj] at this
  simpa using this

set_option maxHeartbeats 2000000 in
set_option maxRecDepth 1000000 in
theorem rfCheckFilter_any (s : ByteArray) (w : World) (hs : s.size ≤ 1000000000) :
    Calls Tryz.prog 86 #[.string s] w fun e w' => e = .returned (.int .i64 (chkF s)) ∧ Below w.heap.size w w' := by
  by_cases h0 : s.size = 0
  · have f0 : ((s.size : Int) == 0) = true := by rw [h0]; rfl
    have HF := Lib.hid (show chkF s = 50 from by unfold chkF; rw [textE_50 h0]; rfl)
    clear h0
    go_enter Tryz.func86, Tryz.ntmps86
    go_wp2_with fail
    go_ret
    exact ⟨ret_int HF.out.symm, Below.refl _ _⟩
  have f0 : ((s.size : Int) == 0) = false := by rw [beq_eq_false_iff_ne]; omega
  cases ht : isText s with
  | false =>
    have HF := Lib.hid (show chkF s = 51 from by unfold chkF; rw [textE_51 h0 ht]; rfl)
    have HT := Lib.hid ht
    clear h0 ht
    go_enter Tryz.func86, Tryz.ntmps86
    go_wp2_with fail
    refine (rfText_any s _ hs).mono ?_
    rintro e w1 ⟨rfl, rfl⟩
    rw [HT.out]
    go_wp2_with fail
    go_ret
    exact ⟨ret_int HF.out.symm, Below.refl _ _⟩
  | true =>
    have HT := Lib.hid ht
    have HF := Lib.hid (show chkF s = if badLv (levels s) then 52 else 0 from by unfold chkF; rw [textE_ok h0 ht]; rfl)
    clear h0 ht
    have hl := levels_len s hs
    have HSZ := Lib.hid (fun k x => level_size s x k)
    go_enter Tryz.func86, Tryz.ntmps86
    go_wp2_with fail
    refine (rfText_any s _ hs).mono ?_
    rintro e w1 ⟨rfl, rfl⟩
    rw [HT.out]
    go_wp2_with fail
    refine (rfLevels_any s _ hs).mono ?_
    rintro e w2 ⟨v, rfl, hown, hb⟩
    obtain ⟨b, off, cap, rfl, hlc, hcm, hbw, hcell⟩ := (StrsAt.of_owns hown).open hl.1
    clear hown
    have HC := Lib.hid hcell
    clear hcell
    generalize levels s = L at *
    obtain ⟨n, hn⟩ : ∃ n, L.length = n := ⟨_, rfl⟩
    have HN := Lib.hid hn
    rw [hn] at hl hlc ⊢
    clear hn
    obtain ⟨hpos, hlen⟩ := hl
    go_wp2_with fail
    go_loopg [4] n (fun g i wr => ∃ k, k + g = n ∧ i = .int .i64 (k : Nat) ∧ Aside (badLv (L.drop k) = badLv L) ∧ w2 = wr)
    case atStart => exact ⟨0, by omega, rfl, rfl, rfl⟩
    case round =>
      obtain ⟨k, hkg, rfl, HI, rfl⟩ := hrel
      have HKG := Lib.hid hkg
      cases gk with
      | zero =>
        have hkz : ¬ ((k : Int) < (n : Int)) := by omega
        have HX := Lib.hid (show badLv L = false from by rw [← HI.out, List.drop_eq_nil_of_le (by rw [HN.out]; omega)]; rfl)
        clear hkg
        go_wp2_with fail
        go_ret
        exact ⟨ret_int (by rw [HF.out, HX.out]; rfl), hb⟩
      | succ g =>
        have hkz : (k : Int) < (n : Int) := by omega
        have hkn : k < n := by omega
        clear hkg
        obtain ⟨x, hx⟩ : ∃ x, L[k]? = some x := ⟨L[k]'(by rw [HN.out]; exact hkn), List.getElem?_eq_getElem _⟩
        have hcx : w2.cell? ⟨b, off + k, none⟩ = some (.string x) := HC.out k x hx
        have hxs : x.size ≤ 1000000000 := Nat.le_trans (HSZ.out k x hx) hs
        have HD := Lib.hid (drop_at hx)
        clear hx
        have HS := Lib.hid (fun W => rfSign_any x W hxs)
        cases hg : sign x with
        | true =>
          have HG := Lib.hid hg
          by_cases hl : 1 < x.size
          · have hlI : (1 : Int) < (x.size : Int) := by omega
            have HX := Lib.hid (show badLv L = true from by rw [← HI.out, HD.out]; exact badLv_stop _ _ (.inl ⟨hg, hl⟩))
            clear hg hl
            go_wp2_with fail
            refine (HS.out _).mono ?_
            rintro e w3 ⟨rfl, rfl⟩
            rw [HG.out]
            go_wp2_with fail
            go_ret
            exact ⟨ret_int (by rw [HF.out, HX.out]; rfl), hb⟩
          have hlI : ¬ ((1 : Int) < (x.size : Int)) := by omega
          by_cases h35 : x.data.toList = [35]
          · have f35 : (x.toList == [35]) = true := by rw [strEq, decide_eq_true h35]
            by_cases hk : k + 1 < n
            · have hkI : (k : Int) + 1 < (n : Int) := by omega
              have hr : L.drop (k + 1) ≠ [] := by rw [Ne, List.drop_eq_nil_iff, HN.out]; omega
              have HX := Lib.hid (show badLv L = true from by rw [← HI.out, HD.out]; exact badLv_stop _ _ (.inr ⟨h35, hr⟩))
              clear hg hl h35 hk hr
              go_wp2_with fail
              refine (HS.out _).mono ?_
              rintro e w3 ⟨rfl, rfl⟩
              rw [HG.out]
              go_wp2_with fail
              go_ret
              exact ⟨ret_int (by rw [HF.out, HX.out]; rfl), hb⟩
            · have hkI : ¬ ((k : Int) + 1 < (n : Int)) := by omega
              have HK := Lib.hid (show badLv (x :: L.drop (k + 1)) = badLv (L.drop (k + 1)) from badLv_keep _ _ (fun _ => by omega) (fun e => by rw [List.drop_eq_nil_iff, HN.out]; omega))
              clear hg hl h35 hk
              go_wp2_with fail
              refine (HS.out _).mono ?_
              rintro e w3 ⟨rfl, rfl⟩
              rw [HG.out]
              go_wp2_with fail
              go_roundg g
              case measure => omega
              case rel => exact ⟨k + 1, by have := HKG.out; omega, by go_num, by show _ = _; rw [← HI.out, HD.out, HK.out], rfl⟩
          · have f35 : (x.toList == [35]) = false := by rw [strEq, decide_eq_false h35]
            have HK := Lib.hid (show badLv (x :: L.drop (k + 1)) = badLv (L.drop (k + 1)) from badLv_keep _ _ (fun _ => by omega) (fun e => absurd e h35))
            clear hg hl h35
            go_wp2_with fail
            refine (HS.out _).mono ?_
            rintro e w3 ⟨rfl, rfl⟩
            rw [HG.out]
            go_wp2_with fail
            go_roundg g
            case measure => omega
            case rel => exact ⟨k + 1, by have := HKG.out; omega, by go_num, by show _ = _; rw [← HI.out, HD.out, HK.out], rfl⟩
        | false =>
          have HG := Lib.hid hg
          have h35 : ¬ x.data.toList = [35] := fun e => by unfold sign at hg; rw [e] at hg; cases hg
          have f35 : (x.toList == [35]) = false := by rw [strEq, decide_eq_false h35]
          have HK := Lib.hid (show badLv (x :: L.drop (k + 1)) = badLv (L.drop (k + 1)) from badLv_keep _ _ (fun e => by rw [hg] at e; cases e) (fun e => absurd e h35))
          clear hg h35
          go_wp2_with fail
          refine (HS.out _).mono ?_
          rintro e w3 ⟨rfl, rfl⟩
          rw [HG.out]
          go_wp2_with fail
          go_roundg g
          case measure => omega
          case rel => exact ⟨k + 1, by have := HKG.out; omega, by go_num, by show _ = _; rw [← HI.out, HD.out, HK.out], rfl⟩

end Go.Proofs.YtgnffkahlniehaaGreat

/- Proved here: the contract of the reference's Compare. -/
namespace Go.Proofs.YtgnffkahlniehaaGreat
open Go.RowKit Go.Proofs.Tp

theorem less_iff (x y : ByteArray) : Op.bytesLess x.toList y.toList = decide (x.data.toList < y.data.toList) := by
  rw [bytesLess_eq, Lib.toList_data, Lib.toList_data]

theorem cmpB_lt {x y : ByteArray} (h : x.data.toList < y.data.toList) : cmpB x y = -1 := by unfold cmpB; rw [if_pos h]
theorem cmpB_gt {x y : ByteArray} (h1 : ¬ x.data.toList < y.data.toList) (h : y.data.toList < x.data.toList) : cmpB x y = 1 := by unfold cmpB; rw [if_neg h1, if_pos h]
theorem cmpB_eq {x y : ByteArray} (h1 : ¬ x.data.toList < y.data.toList) (h : ¬ y.data.toList < x.data.toList) : cmpB x y = 0 := by unfold cmpB; rw [if_neg h1, if_neg h]

set_option maxHeartbeats 2000000 in
set_option maxRecDepth 1000000 in
theorem rfCompare_any (s t : ByteArray) (w : World) (hs : s.size ≤ 1000000000) (ht : t.size ≤ 1000000000) :
    Calls Tryz.prog 61 #[.string s, .string t] w fun e w' => e = .returned (.int .i64 (cmpT s t)) ∧ Below w.heap.size w w' := by
  have h1 := levels_len s hs
  have h2 := levels_len t ht
  have HF := Lib.hid (show cmpT s t = cmpL (levels s) (levels t) from rfl)
  go_enter Tryz.func61, Tryz.ntmps61
  go_wp2_with fail
  refine (rfLevels_any s _ hs).mono ?_
  rintro e w1 ⟨v, rfl, hown, hb⟩
  obtain ⟨b1, o1, c1, rfl, q1, q2, q3, q4⟩ := (StrsAt.of_owns hown).open h1.1
  clear hown
  have Q4 := Lib.hid q4
  clear q4
  go_wp2_with fail
  refine (rfLevels_any t _ ht).mono ?_
  rintro e w2 ⟨v2, rfl, hown2, hb2⟩
  obtain ⟨b2, o2, c2, rfl, r1, r2, r3, r4⟩ := (StrsAt.of_owns hown2).open h2.1
  clear hown2
  have HA := Lib.hid (fun i x hx => (hb2.cell (p := ⟨b1, o1 + i, none⟩) q3).trans (Q4.out i x hx))
  have HB := Lib.hid r4
  have HBEL := Lib.hid (hb.trans (hb2.mono hb.size))
  clear r4 hb hb2 Q4
  generalize levels s = A at *
  generalize levels t = B at *
  obtain ⟨n, hn⟩ : ∃ n, A.length = n := ⟨_, rfl⟩
  obtain ⟨m, hm⟩ : ∃ m, B.length = m := ⟨_, rfl⟩
  have HN := Lib.hid hn
  have HM := Lib.hid hm
  rw [hn] at h1 q1 ⊢
  rw [hm] at h2 r1 ⊢
  clear hn hm
  obtain ⟨hn0, hn1⟩ := h1
  obtain ⟨hm0, hm1⟩ := h2
  go_wp2_with fail
  go_loopg [7] n (fun g i wr => ∃ k, k + g = n ∧ i = .int .i64 (k : Nat) ∧ k ≤ m ∧ Aside (cmpL (A.drop k) (B.drop k) = cmpL A B) ∧ ∃ d, wr = w2.drewN d)
  case atStart => exact ⟨0, by omega, rfl, Nat.zero_le _, rfl, 0, rfl⟩
  case round =>
    obtain ⟨k, hkg, rfl, hkm, HI, d, rfl⟩ := hrel
    have HKG := Lib.hid hkg
    by_cases hkn : k < n
    · have hknI : (k : Int) < (n : Int) := by omega
      obtain ⟨x, hx⟩ : ∃ x, A[k]? = some x := ⟨A[k]'(by rw [HN.out]; exact hkn), List.getElem?_eq_getElem _⟩
      have hcx : w2.cell? ⟨b1, o1 + k, none⟩ = some (.string x) := HA.out k x hx
      have HX := Lib.hid (drop_at hx)
      clear hx
      by_cases hkm2 : k < m
      · have hkmI : (k : Int) < (m : Int) := by omega
        obtain ⟨y, hy⟩ : ∃ y, B[k]? = some y := ⟨B[k]'(by rw [HM.out]; exact hkm2), List.getElem?_eq_getElem _⟩
        have hcy : w2.cell? ⟨b2, o2 + k, none⟩ = some (.string y) := HB.out k y hy
        have HY := Lib.hid (drop_at hy)
        clear hy hkg
        have l1 := less_iff x y
        have l2 := less_iff y x
        by_cases c1 : x.data.toList < y.data.toList
        · rw [decide_eq_true c1] at l1
          have HE := Lib.hid (show cmpL A B = -1 from by rw [← HI.out, HX.out, HY.out]; simp [cmpL, cmpB_lt c1])
          clear l2 c1
          go_wp2_with fail
          go_quiet (fail)
          go_wp2_with fail
          go_ret
          exact ⟨ret_int (HF.out.trans HE.out).symm, below_drewN (below_drewN HBEL.out _) _⟩
        · rw [decide_eq_false c1] at l1
          by_cases c2 : y.data.toList < x.data.toList
          · rw [decide_eq_true c2] at l2
            have HE := Lib.hid (show cmpL A B = 1 from by rw [← HI.out, HX.out, HY.out]; simp [cmpL, cmpB_gt c1 c2])
            clear c1 c2
            go_wp2_with fail
            go_quiet (fail)
            go_wp2_with fail
            go_quiet (fail)
            go_wp2_with fail
            go_ret
            exact ⟨ret_int (HF.out.trans HE.out).symm, below_drewN (below_drewN (below_drewN HBEL.out _) _) _⟩
          · rw [decide_eq_false c2] at l2
            have HE := Lib.hid (show cmpL (A.drop (k + 1)) (B.drop (k + 1)) = cmpL A B from by rw [← HI.out, HX.out, HY.out]; simp [cmpL, cmpB_eq c1 c2])
            clear c1 c2
            go_wp2_with fail
            go_quiet (fail)
            go_wp2_with fail
            go_quiet (fail)
            go_wp2_with fail
            go_roundg (n - (k + 1))
            case measure => have := HKG.out; omega
            case rel => exact ⟨k + 1, by omega, by go_num, by omega, HE.out, _, rfl⟩
      · have hkmI : ¬ ((k : Int) < (m : Int)) := by omega
        have hnmI : ¬ ((n : Int) < (m : Int)) := by omega
        have hmnI : (m : Int) < (n : Int) := by omega
        have HE := Lib.hid (show cmpL A B = 1 from by rw [← HI.out, HX.out, show B.drop k = [] from List.drop_eq_nil_of_le (by rw [HM.out]; omega)]; rfl)
        clear hkg
        go_wp2_with fail
        go_ret
        exact ⟨ret_int (HF.out.trans HE.out).symm, below_drewN HBEL.out _⟩
    · have hknI : ¬ ((k : Int) < (n : Int)) := by omega
      have hAk : A.drop k = [] := List.drop_eq_nil_of_le (by rw [HN.out]; omega)
      clear hkg
      by_cases hnm : n < m
      · have hnmI : (n : Int) < (m : Int) := by omega
        have HE := Lib.hid (show cmpL A B = -1 from by
          rw [← HI.out, hAk]
          obtain ⟨y, hy⟩ : ∃ y, B[k]? = some y := ⟨B[k]'(by rw [HM.out]; have := HKG.out; omega), List.getElem?_eq_getElem _⟩
          rw [drop_at hy]; rfl)
        clear hAk hnm
        go_wp2_with fail
        go_ret
        exact ⟨ret_int (HF.out.trans HE.out).symm, below_drewN HBEL.out _⟩
      · have hnmI : ¬ ((n : Int) < (m : Int)) := by omega
        have hmnI : ¬ ((m : Int) < (n : Int)) := by have := HKG.out; omega
        have HE := Lib.hid (show cmpL A B = 0 from by
          rw [← HI.out, hAk, show B.drop k = [] from List.drop_eq_nil_of_le (by rw [HM.out]; have := HKG.out; omega)]; rfl)
        clear hAk hnm
        go_wp2_with fail
        go_ret
        exact ⟨ret_int (HF.out.trans HE.out).symm, below_drewN HBEL.out _⟩

end Go.Proofs.YtgnffkahlniehaaGreat

/- Proved here: the contract of the reference's goes. -/
namespace Go.Proofs.YtgnffkahlniehaaGreat
open Go.RowKit Go.Proofs.Tp

set_option maxHeartbeats 2000000 in
set_option maxRecDepth 1000000 in
theorem rfGoes_walk (F T : List ByteArray) (b1 o1 c1 b2 o2 c2 n m : Nat) (w : World) (hn : F.length = n) (hm : T.length = m) (hnc : n ≤ c1) (_hmc : m ≤ c2) (hc1 : c1 ≤ 9223372036854775807) (_hc2 : c2 ≤ 9223372036854775807)
    (hA : ∀ i x, F[i]? = some x → w.cell? ⟨b1, o1 + i, none⟩ = some (.string x)) (hB : ∀ i x, T[i]? = some x → w.cell? ⟨b2, o2 + i, none⟩ = some (.string x)) :
    Calls Tryz.prog 69 #[.slice (some ⟨b1, o1, none⟩) n c1, .slice (some ⟨b2, o2, none⟩) m c2] w fun e w' => e = .returned (.bool (goesL F T)) ∧ ∃ d, w' = w.drewN d := by
  have HA := Lib.hid hA
  have HB := Lib.hid hB
  have HN := Lib.hid hn
  have HM := Lib.hid hm
  clear hA hB hn hm
  go_enter Tryz.func69, Tryz.ntmps69
  go_wp2_with fail
  go_loopg [5] n (fun g i wr => ∃ k, k + g = n ∧ i = .int .i64 (k : Nat) ∧ k ≤ m ∧ Aside (goesL (F.drop k) (T.drop k) = goesL F T) ∧ ∃ d, wr = w.drewN d)
  case atStart => exact ⟨0, by omega, rfl, Nat.zero_le _, rfl, 0, rfl⟩
  case round =>
    obtain ⟨k, hkg, rfl, hkm, HI, d, rfl⟩ := hrel
    have HKG := Lib.hid hkg
    by_cases hkn : k < n
    · have hknI : (k : Int) < (n : Int) := by omega
      obtain ⟨f, hf⟩ : ∃ x, F[k]? = some x := ⟨F[k]'(by rw [HN.out]; exact hkn), List.getElem?_eq_getElem _⟩
      have hcx : w.cell? ⟨b1, o1 + k, none⟩ = some (.string f) := HA.out k f hf
      have HX := Lib.hid (drop_at hf)
      clear hf hkg
      by_cases h35 : f.data.toList = [35]
      · have f35 : (f.toList == [35]) = true := by rw [strEq, decide_eq_true h35]
        have HE := Lib.hid (show goesL F T = true from by rw [← HI.out, HX.out]; exact goesL_hash h35)
        clear h35
        go_wp2_with fail
        go_ret
        exact ⟨ret_bool HE.out.symm, _, rfl⟩
      · have f35 : (f.toList == [35]) = false := by rw [strEq, decide_eq_false h35]
        by_cases hkm2 : k < m
        · have hkmI : ¬ ((m : Int) ≤ (k : Int)) := by omega
          have hkmB : decide (m ≤ k) = false := by rw [decide_eq_false_iff_not]; omega
          obtain ⟨x, hx⟩ : ∃ x, T[k]? = some x := ⟨T[k]'(by rw [HM.out]; exact hkm2), List.getElem?_eq_getElem _⟩
          have hcy : w.cell? ⟨b2, o2 + k, none⟩ = some (.string x) := HB.out k x hx
          have HY := Lib.hid (drop_at hx)
          clear hx
          by_cases h43 : f.data.toList = [43]
          · have f43 : (f.toList == [43]) = true := by rw [strEq, decide_eq_true h43]
            have f43n : (f.toList != [43]) = false := by unfold bne; rw [f43]; rfl
            have HE := Lib.hid (show goesL (F.drop (k + 1)) (T.drop (k + 1)) = goesL F T from by rw [← HI.out, HX.out, HY.out, goesL_on h35 (.inl h43)])
            clear h35 h43
            go_wp2_with fail
            go_quiet (fail)
            go_wp2_with fail
            go_roundg (n - (k + 1))
            case measure => have := HKG.out; omega
            case rel => exact ⟨k + 1, by omega, by go_num, by omega, HE.out, _, rfl⟩
          · have f43 : (f.toList == [43]) = false := by rw [strEq, decide_eq_false h43]
            have f43n : (f.toList != [43]) = true := by unfold bne; rw [f43]; rfl
            by_cases hfx : f = x
            · have e1 : (f.toList == x.toList) = true := by rw [hfx]; simp
              have e2 : (f.toList != x.toList) = false := by rw [hfx]; simp
              have HE := Lib.hid (show goesL (F.drop (k + 1)) (T.drop (k + 1)) = goesL F T from by rw [← HI.out, HX.out, HY.out, goesL_on h35 (.inr hfx)])
              clear h35 h43 hfx
              go_wp2_with fail
              go_quiet (fail)
              go_wp2_with fail
              go_roundg (n - (k + 1))
              case measure => have := HKG.out; omega
              case rel => exact ⟨k + 1, by omega, by go_num, by omega, HE.out, _, rfl⟩
            · have hfx0 : ¬ f.data.toList = x.data.toList := fun e => hfx (ba_ext e)
              have e1 : (f.toList == x.toList) = false := by rw [beq_eq_false_iff_ne, Lib.toList_data, Lib.toList_data]; exact hfx0
              have e2 : (f.toList != x.toList) = true := by unfold bne; rw [e1]; rfl
              have HE := Lib.hid (show goesL F T = false from by rw [← HI.out, HX.out, HY.out, goesL_off h35 h43 hfx])
              clear h35 h43 hfx hfx0
              go_wp2_with fail
              go_quiet (fail)
              go_wp2_with fail
              go_ret
              exact ⟨ret_bool HE.out.symm, _, World.drewN_drewN _ _ _⟩
        · have hkmI : (m : Int) ≤ (k : Int) := by omega
          have hkmB : decide (m ≤ k) = true := by rw [decide_eq_true_eq]; omega
          have HE := Lib.hid (show goesL F T = false from by rw [← HI.out, HX.out, show T.drop k = [] from List.drop_eq_nil_of_le (by rw [HM.out]; omega)]; exact goesL_short h35)
          clear h35
          go_wp2_with fail
          go_quiet (fail)
          go_wp2_with fail
          go_ret
          exact ⟨ret_bool HE.out.symm, _, World.drewN_drewN _ _ _⟩
    · have hknI : ¬ ((k : Int) < (n : Int)) := by omega
      have hFk : F.drop k = [] := List.drop_eq_nil_of_le (by rw [HN.out]; omega)
      have hkn2 : k = n := by omega
      have HE := Lib.hid (show goesL F T = ((n : Int) == (m : Int)) from by
        rw [← HI.out, hFk]
        by_cases hnm : n = m
        · rw [show T.drop k = [] from List.drop_eq_nil_of_le (by rw [HM.out]; omega), hnm]; simp [goesL]
        · have : ((n : Int) == (m : Int)) = false := by rw [beq_eq_false_iff_ne]; omega
          rw [this]
          obtain ⟨y, hy⟩ : ∃ y, T[k]? = some y := ⟨T[k]'(by rw [HM.out]; omega), List.getElem?_eq_getElem _⟩
          rw [drop_at hy]; rfl)
      clear hFk hkg hkn2
      go_wp2_with fail
      go_ret
      exact ⟨ret_bool HE.out.symm, _, rfl⟩

end Go.Proofs.YtgnffkahlniehaaGreat

/- Proved here: the contract of the reference's Join. -/
namespace Go.Proofs.YtgnffkahlniehaaGreat
open Go.RowKit Go.Proofs.Tp

theorem Tryz.info5 : (Tryz.prog.info? 5).map (fun i => (i.zero, i.size, i.bytes)) = some (some (.int .u8 0), 1, 1) := by kernel_rfl

theorem conv_own {w : World} {B : Nat} {v : Value} (bs : List UInt8) (h : w.ownsRow B 5 1 v bs.length (Lib.strCells ⟨bs.toArray⟩)) :
    (convert 34 9 v).run Tryz.prog w = .ok (.string ⟨bs.toArray⟩) w := by
  have hc := h
  rcases h.2 with ⟨rfl, h0⟩ | ⟨g, cap, cur, rfl, _, _, hn, hm, _, _⟩
  · obtain rfl : bs = [] := List.eq_nil_of_length_eq_zero h0
    exact run_convert_bytes_nil w 34 5 Tryz.underlying34 Tryz.underlying5 0 0 9 Tryz.underlying9
  · refine run_convert_bytes_back w 34 9 5 _ cap bs Tryz.underlying34 Tryz.underlying5 Tryz.underlying9 (fun j hj => ?_)
    exact hc.cells (g := g) rfl j _ (by unfold Lib.strCells; simp [hj])

theorem join_snoc (L : List (List UInt8)) (x : List UInt8) (h : L ≠ []) : Lib.join (L ++ [x]) [47] = Lib.join L [47] ++ 47 :: x := by
  cases L with
  | nil => exact absurd rfl h
  | cons y r => rw [List.cons_append, Lib.join_cons, Lib.join_cons]; simp [Lib.joinTail]

theorem join_take_len (L : List (List UInt8)) (k : Nat) : (Lib.join (L.take k) [47]).length ≤ (Lib.join L [47]).length := by
  cases L with
  | nil => simp
  | cons x r =>
    cases k with
    | zero => simp [Lib.join_nil]
    | succ k =>
      rw [List.take_succ_cons, Lib.join_cons, Lib.join_cons]
      simp only [List.length_append, Lib.joinTail]
      have : ∀ (m : Nat) (r : List (List UInt8)), ((r.take m).map ([47] ++ ·)).flatten.length ≤ (r.map ([47] ++ ·)).flatten.length := by
        intro m
        induction m with
        | zero => intro r; simp
        | succ m ih =>
          intro r
          cases r with
          | nil => simp
          | cons y r => have := ih r; simp only [List.take_succ_cons, List.map_cons, List.flatten_cons, List.length_append] at this ⊢; omega
      have := this k r
      omega

theorem strCells_app (a b : List UInt8) : Lib.strCells ⟨(a ++ b).toArray⟩ = Lib.strCells ⟨a.toArray⟩ ++ Lib.strCells ⟨b.toArray⟩ := by unfold Lib.strCells; simp

set_option maxHeartbeats 2000000 in
set_option maxRecDepth 1000000 in
theorem rfJoin_walk (L : List ByteArray) (b off cap n : Nat) (w : World) (hn : L.length = n) (_hnc : n ≤ cap) (_hm : cap ≤ 9223372036854775807) (hb : b < w.heap.size) (hn1 : n ≤ 1000000001)
    (hA : ∀ i x, L[i]? = some x → w.cell? ⟨b, off + i, none⟩ = some (.string x)) (hsz : (joinT L).size ≤ 1000000000) :
    Calls Tryz.prog 98 #[.slice (some ⟨b, off, none⟩) n cap] w fun e w' => e = .returned (.string (joinT L)) ∧ Below w.heap.size w w' := by
  obtain ⟨i0, hi, hz0, hz1, hz2⟩ := info_parts Tryz.info5
  have HA := Lib.hid hA
  have HN := Lib.hid hn
  have HJ := Lib.hid (show joinT L = ⟨(Lib.join (L.map (·.data.toList)) [47]).toArray⟩ from rfl)
  have hjl : (Lib.join (L.map (·.data.toList)) [47]).length ≤ 1000000000 := by rw [← joinT_data, ← size_eq]; exact hsz
  have HL := Lib.hid (fun k => join_take_len (L.map (·.data.toList)) k)
  clear hA hn hsz
  go_enter Tryz.func98, Tryz.ntmps98
  go_wp2_with fail
  go_loopg [3, 4] n (fun g v i wr => ∃ (k : Nat) (bs : List UInt8), k + g = n ∧ i = .int .i64 (k : Nat) ∧ Aside (bs = Lib.join ((L.map (·.data.toList)).take k) [47]) ∧ bs.length ≤ 1000000000 ∧
    wr.ownsRow w.heap.size 5 1 v bs.length (Lib.strCells ⟨bs.toArray⟩) ∧ Below w.heap.size w wr)
  case atStart => exact ⟨0, [], by omega, rfl, rfl, by simp, World.ownsRow_nil _ _ _ _, Below.refl _ _⟩
  case round =>
    obtain ⟨k, bs, hkg, rfl, HI, hbl, hown, hbel⟩ := hrel
    have HKG := Lib.hid hkg
    have hsz := hbel.size
    by_cases hkn : k < n
    · have hknI : (k : Int) < (n : Int) := by omega
      obtain ⟨x, hx⟩ : ∃ x, L[k]? = some x := ⟨L[k]'(by rw [HN.out]; exact hkn), List.getElem?_eq_getElem _⟩
      have hcx : wr.cell? ⟨b, off + k, none⟩ = some (.string x) := (hbel.cell (p := ⟨b, off + k, none⟩) hb).trans (HA.out k x hx)
      have htk : (L.map (·.data.toList)).take (k + 1) = (L.map (·.data.toList)).take k ++ [x.data.toList] := by
        rw [List.take_add_one, List.getElem?_map, hx]; rfl
      have hx2 : (⟨x.data.toList.toArray⟩ : ByteArray) = x := rfl
      have hxl := HL.out (k + 1)
      clear hx hkg
      by_cases hk0 : k = 0
      · subst hk0
        have hb0 : bs = [] := by rw [HI.out]; simp [Lib.join_nil]
        subst hb0
        have hjx : Lib.join ((L.map (·.data.toList)).take (0 + 1)) [47] = x.data.toList := by rw [htk]; simp [Lib.join_one]
        rw [hjx] at hxl
        have hxs : x.size ≤ 1000000000 := by rw [size_eq]; omega
        have HX := Lib.hid hjx
        have hcx0 : wr.cell? ⟨b, off, none⟩ = some (.string x) := hcx
        clear hjx htk hxl hcx
        go_wp2_with (at_builtin; (refine Lib.wpList_append_own_string _ rfl (.tmp 16) (.tmp 20) 34 9 rfl w.heap.size 5 i0 Tryz.underlying34 Tryz.underlying9 hi hz0 hz1 hz2 _ _ _ rfl hown x rfl ?c1 ?c2 ?c3 ?_))
        case c1 => unfold maxLen; omega
        case c2 => omega
        intro v' w1 hown1 hgrow _
        go_wp2_with fail
        go_roundg (n - 1)
        case measure => have := HKG.out; omega
        case rel =>
          refine ⟨1, x.data.toList, by omega, by go_num, HX.out.symm, by rw [← size_eq]; exact hxs, ?_, hbel.grown hgrow hsz (fun k e => (hown.lt _ e).1)⟩
          rw [← size_eq]
          simpa [Lib.strCells] using hown1
      · have hkI : (0 : Int) < (k : Int) := by omega
        have hne : (L.map (·.data.toList)).take k ≠ [] := by
          rw [Ne, List.take_eq_nil_iff]; rintro (e | e)
          · exact hk0 e
          · have := HN.out; rw [List.map_eq_nil_iff] at e; rw [e] at this; simp at this; omega
        have hjx : Lib.join ((L.map (·.data.toList)).take (k + 1)) [47] = (bs ++ [47]) ++ x.data.toList := by rw [htk, join_snoc _ _ hne, HI.out]; simp
        rw [hjx] at hxl
        have hxs : bs.length + 1 + x.size ≤ 1000000000 := by rw [size_eq]; simp at hxl ⊢; omega
        have HX := Lib.hid hjx
        clear hjx htk hxl hne
        go_wp2_with (first
          | (at_builtin; refine wpList_append_own _ rfl (.tmp 13) (.tmp 14) 34 rfl w.heap.size 5 i0 (.int .u8 0) 1 1 Tryz.underlying34 hi hz0 hz1 hz2 rfl (by decide) _ _ _ rfl (hown.alloc _) ⟨wr.heap.size, 0, none⟩ 1 1 [.int .u8 47] rfl rfl ?f1 ?f2 ?f3 ?f4 ?f5 ?_))
        case f2 => simp [Value.oneCell']
        case f3 => unfold maxLen; omega
        case f4 => omega
        case f5 => omega
        intro v' w1 hown1 hgrow _
        have h1 := hown.alloc (.cells #[.int .u8 47] 5)
        have hbel1 : Below w.heap.size w w1 := (hbel.alloc hsz _).grown hgrow (by simp; omega) (fun k e => (h1.lt _ e).1)
        have hcx1 : w1.cell? ⟨b, off + k, none⟩ = some (.string x) := (hbel1.cell (p := ⟨b, off + k, none⟩) hb).trans ((hbel.cell (p := ⟨b, off + k, none⟩) hb).symm.trans hcx)
        have hsz1 := hbel1.size
        clear h1 hown hgrow hcx hbel
        go_wp2_with (at_builtin; refine Lib.wpList_append_own_string _ rfl (.tmp 16) (.tmp 20) 34 9 rfl w.heap.size 5 i0 Tryz.underlying34 Tryz.underlying9 hi hz0 hz1 hz2 _ _ _ rfl hown1 x rfl ?e1 ?e2 ?e3 ?_)
        case e1 => unfold maxLen; omega
        case e2 => omega
        case e3 => omega
        intro v2 w2 hown2 hgrow2 _
        go_wp2_with fail
        go_roundg (n - (k + 1))
        case measure => have := HKG.out; omega
        case rel =>
          refine ⟨k + 1, (bs ++ [47]) ++ x.data.toList, by omega, by go_num, HX.out.symm, by simp; omega, ?_, hbel1.grown hgrow2 hsz1 (fun k e => (hown1.lt _ e).1)⟩
          have e1 : ((bs ++ [47]) ++ x.data.toList).length = bs.length + 1 + x.size := by simp; omega
          rw [e1, strCells_app, strCells_app, List.append_assoc]
          exact hown2
    · have hknI : ¬ ((k : Int) < (n : Int)) := by omega
      have hcv := conv_own bs hown
      have HE := Lib.hid (show joinT L = ⟨bs.toArray⟩ from by rw [HJ.out, HI.out, List.take_of_length_le (by simp; rw [HN.out]; omega)])
      clear hkg hown
      go_wp2_with fail
      go_ret
      exact ⟨by rw [HE.out]; rfl, hbel⟩

end Go.Proofs.YtgnffkahlniehaaGreat

/- Proved here: the contracts of the reference's Shared and Plain. -/
namespace Go.Proofs.YtgnffkahlniehaaGreat
open Go.RowKit Go.Proofs.Tp

theorem rfJoin_any (L : List ByteArray) (v : Value) (w : World) (h : StrsAt w v L) (hL : 0 < L.length) (hn : L.length ≤ 1000000001) (hsz : (joinT L).size ≤ 1000000000) :
    Calls Tryz.prog 98 #[v] w fun e w' => e = .returned (.string (joinT L)) ∧ Below w.heap.size w w' := by
  obtain ⟨b, off, cap, rfl, h1, h2, h3, h4⟩ := h.open hL
  exact rfJoin_walk L b off cap _ w rfl h1 h2 h3 hn h4 hsz

set_option maxHeartbeats 4000000 in
set_option maxRecDepth 1000000 in
theorem rfShared_any (s : ByteArray) (w : World) (hs : s.size ≤ 1000000000) :
    Calls Tryz.prog 85 #[.string s] w fun e w' => e = .returned (sharedV s) ∧ Below w.heap.size w w' := by
  have hl := levels_len s hs
  have hsh : shared s = match levels s with
    | a :: g :: x :: r => if a.data.toList = [36, 115, 104, 97, 114, 101] ∧ chk g = 0 ∧ chkF (joinT (x :: r)) = 0 ∧ chkF s = 0 then some (g, joinT (x :: r)) else none
    | _ => none := rfl
  by_cases cs : chkF s = 0
  case neg =>
    have fs : (chkF s != 0) = true := by rw [bne_iff_ne]; exact cs
    have HV := Lib.hid (sharedV_none (s := s) (by
      rw [hsh]
      match levels s with
      | [] => rfl
      | [a] => rfl
      | [a, g] => rfl
      | a :: g :: x :: r => exact if_neg (fun h => cs h.2.2.2)))
    clear cs hsh
    go_enter Tryz.func85, Tryz.ntmps85
    go_wp2_with fail
    refine (rfLevels_any s _ hs).mono ?_
    rintro e w1 ⟨v, rfl, hown, hb⟩
    obtain ⟨b, off, cap, rfl, q1, q2, q3, q4⟩ := (StrsAt.of_owns hown).open hl.1
    clear q4 hown
    go_wp2_with fail
    refine (rfCheckFilter_any s _ hs).mono ?_
    rintro e w2 ⟨rfl, hb2⟩
    have HB2 := Lib.hid (hb.trans (hb2.mono hb.size))
    go_wp2_with fail
    go_ret3
    exact ⟨by rw [HV.out]; rfl, HB2.out⟩
  have fs : (chkF s != 0) = false := by rw [cs]; rfl
  by_cases h3 : (levels s).length < 3
  · have h3I : ((levels s).length : Int) < 3 := by omega
    have HV := Lib.hid (sharedV_none (s := s) (by
      rw [hsh]
      match hL : levels s with
      | [] => rfl
      | [a] => rfl
      | [a, g] => rfl
      | a :: g :: x :: r => rw [hL] at h3; simp at h3; omega))
    clear cs hsh h3
    go_enter Tryz.func85, Tryz.ntmps85
    go_wp2_with fail
    refine (rfLevels_any s _ hs).mono ?_
    rintro e w1 ⟨v, rfl, hown, hb⟩
    obtain ⟨b, off, cap, rfl, q1, q2, q3, q4⟩ := (StrsAt.of_owns hown).open hl.1
    clear q4 hown
    go_wp2_with fail
    refine (rfCheckFilter_any s _ hs).mono ?_
    rintro e w2 ⟨rfl, hb2⟩
    have HB2 := Lib.hid (hb.trans (hb2.mono hb.size))
    go_wp2_with fail
    go_ret3
    exact ⟨by rw [HV.out]; rfl, HB2.out⟩
  obtain ⟨a, g, x, r, hL⟩ : ∃ a g x r, levels s = a :: g :: x :: r := by
    match hL : levels s with
    | [] => rw [hL] at h3; simp at h3
    | [a] => rw [hL] at h3; simp at h3
    | [a, g] => rw [hL] at h3; simp at h3
    | a :: g :: x :: r => exact ⟨a, g, x, r, rfl⟩
  rw [hL] at hsh
  simp only at hsh
  obtain ⟨n, hnn⟩ : ∃ n, (levels s).length = n := ⟨_, rfl⟩
  have hn3 : 3 ≤ n := by omega
  have hn3I : ¬ ((n : Int) < 3) := by omega
  have hn4 : n ≤ 1000000001 := by omega
  have hi := inner_size s a g x r hL
  have hgs : g.size ≤ 1000000000 := by omega
  have his : (joinT (x :: r)).size ≤ 1000000000 := by omega
  have hgt : isText g = true := isText_level (chkF_zero cs).2.1 (by rw [hL]; simp)
  clear h3 hi
  by_cases ca : a.data.toList = [36, 115, 104, 97, 114, 101]
  case neg =>
    have fa : (a.toList == [36, 115, 104, 97, 114, 101]) = false := by rw [strEq, decide_eq_false ca]
    have fa2 : (a.toList != [36, 115, 104, 97, 114, 101]) = true := by unfold bne; rw [fa]; rfl
    have HV := Lib.hid (sharedV_none (s := s) (by rw [hsh, if_neg (fun h => ca h.1)]))
    clear ca hsh hgt cs
    go_enter Tryz.func85, Tryz.ntmps85
    go_wp2_with fail
    refine (rfLevels_any s _ hs).mono ?_
    rintro e w1 ⟨v, rfl, hown, hb⟩
    obtain ⟨b, off, cap, rfl, q1, q2, q3, q4⟩ := (StrsAt.of_owns hown).open hl.1
    have Q4 := Lib.hid q4
    have HL := Lib.hid hL
    have HN := Lib.hid hnn
    have ha : w1.cell? ⟨b, off, none⟩ = some (.string a) := q4 0 a (by rw [hL]; rfl)
    have hg : w1.cell? ⟨b, off + 1, none⟩ = some (.string g) := q4 1 g (by rw [hL]; rfl)
    clear q4 hown hL
    rw [hnn] at q1 ⊢
    clear hnn
    go_wp2_with fail
    refine (rfCheckFilter_any s _ hs).mono ?_
    rintro e w2 ⟨rfl, hb2⟩
    have HB2 := Lib.hid (hb.trans (hb2.mono hb.size))
    have ha2 := (hb2.cell (p := ⟨b, off, none⟩) q3).trans ha
    have hg2 := (hb2.cell (p := ⟨b, off + 1, none⟩) q3).trans hg
    go_wp2_with fail
    go_ret3
    exact ⟨by rw [HV.out]; rfl, HB2.out⟩
  have fa : (a.toList == [36, 115, 104, 97, 114, 101]) = true := by rw [strEq, decide_eq_true ca]
  have fa2 : (a.toList != [36, 115, 104, 97, 114, 101]) = false := by unfold bne; rw [fa]; rfl
  by_cases g0 : g.size = 0
  · have f0 := isEmpty_of g g0
    have HV := Lib.hid (sharedV_none (s := s) (by rw [hsh, if_neg (fun h => (chk_zero.1 h.2.1).1 g0)]))
    clear ca hsh hgt cs g0
    go_enter Tryz.func85, Tryz.ntmps85
    go_wp2_with fail
    refine (rfLevels_any s _ hs).mono ?_
    rintro e w1 ⟨v, rfl, hown, hb⟩
    obtain ⟨b, off, cap, rfl, q1, q2, q3, q4⟩ := (StrsAt.of_owns hown).open hl.1
    have Q4 := Lib.hid q4
    have HL := Lib.hid hL
    have HN := Lib.hid hnn
    have ha : w1.cell? ⟨b, off, none⟩ = some (.string a) := q4 0 a (by rw [hL]; rfl)
    have hg : w1.cell? ⟨b, off + 1, none⟩ = some (.string g) := q4 1 g (by rw [hL]; rfl)
    clear q4 hown hL
    rw [hnn] at q1 ⊢
    clear hnn
    go_wp2_with fail
    refine (rfCheckFilter_any s _ hs).mono ?_
    rintro e w2 ⟨rfl, hb2⟩
    have HB2 := Lib.hid (hb.trans (hb2.mono hb.size))
    have ha2 := (hb2.cell (p := ⟨b, off, none⟩) q3).trans ha
    have hg2 := (hb2.cell (p := ⟨b, off + 1, none⟩) q3).trans hg
    go_wp2_with fail
    go_ret3
    exact ⟨by rw [HV.out]; rfl, HB2.out⟩
  have f0 := isEmpty_no g g0
  cases gs : sign g with
  | true =>
    have HG := Lib.hid gs
    have HV := Lib.hid (sharedV_none (s := s) (by rw [hsh, if_neg (fun h => by have := (chk_zero.1 h.2.1).2.2; rw [gs] at this; cases this)]))
    clear ca hsh hgt cs g0 gs
    go_enter Tryz.func85, Tryz.ntmps85
    go_wp2_with fail
    refine (rfLevels_any s _ hs).mono ?_
    rintro e w1 ⟨v, rfl, hown, hb⟩
    obtain ⟨b, off, cap, rfl, q1, q2, q3, q4⟩ := (StrsAt.of_owns hown).open hl.1
    have Q4 := Lib.hid q4
    have HL := Lib.hid hL
    have HN := Lib.hid hnn
    have ha : w1.cell? ⟨b, off, none⟩ = some (.string a) := q4 0 a (by rw [hL]; rfl)
    have hg : w1.cell? ⟨b, off + 1, none⟩ = some (.string g) := q4 1 g (by rw [hL]; rfl)
    clear q4 hown hL
    rw [hnn] at q1 ⊢
    clear hnn
    go_wp2_with fail
    refine (rfCheckFilter_any s _ hs).mono ?_
    rintro e w2 ⟨rfl, hb2⟩
    have HB2 := Lib.hid (hb.trans (hb2.mono hb.size))
    have ha2 := (hb2.cell (p := ⟨b, off, none⟩) q3).trans ha
    have hg2 := (hb2.cell (p := ⟨b, off + 1, none⟩) q3).trans hg
    go_wp2_with fail
    refine (rfSign_any g _ hgs).mono ?_
    rintro e w3 ⟨rfl, rfl⟩
    rw [HG.out]
    go_wp2_with fail
    go_ret3
    exact ⟨by rw [HV.out]; rfl, HB2.out⟩
  | false =>
    have HG := Lib.hid gs
    by_cases ci : chkF (joinT (x :: r)) = 0
    · have fi : (chkF (joinT (x :: r)) != 0) = false := by rw [ci]; rfl
      have HV := Lib.hid (sharedV_some (s := s) (g := g) (i := joinT (x :: r)) (by rw [hsh, if_pos ⟨ca, chk_zero.2 ⟨g0, hgt, gs⟩, ci, cs⟩]))
      clear ca hsh hgt cs g0 gs ci
      go_enter Tryz.func85, Tryz.ntmps85
      go_wp2_with fail
      refine (rfLevels_any s _ hs).mono ?_
      rintro e w1 ⟨v, rfl, hown, hb⟩
      obtain ⟨b, off, cap, rfl, q1, q2, q3, q4⟩ := (StrsAt.of_owns hown).open hl.1
      have Q4 := Lib.hid q4
      have HL := Lib.hid hL
      have HN := Lib.hid hnn
      have ha : w1.cell? ⟨b, off, none⟩ = some (.string a) := q4 0 a (by rw [hL]; rfl)
      have hg : w1.cell? ⟨b, off + 1, none⟩ = some (.string g) := q4 1 g (by rw [hL]; rfl)
      clear q4 hown hL
      rw [hnn] at q1 ⊢
      clear hnn
      go_wp2_with fail
      refine (rfCheckFilter_any s _ hs).mono ?_
      rintro e w2 ⟨rfl, hb2⟩
      have HB2 := Lib.hid (hb.trans (hb2.mono hb.size))
      have ha2 := (hb2.cell (p := ⟨b, off, none⟩) q3).trans ha
      have hg2 := (hb2.cell (p := ⟨b, off + 1, none⟩) q3).trans hg
      go_wp2_with fail
      refine (rfSign_any g _ hgs).mono ?_
      rintro e w3 ⟨rfl, rfl⟩
      rw [HG.out]
      go_wp2_with fail
      refine (rfJoin_any (x :: r) _ _ (tail_two HL.out HN.out hn3 q1 q2 Q4.out hb2) (by simp) (by have := HN.out; rw [HL.out] at this; simp at this ⊢; omega) his).mono ?_
      rintro e w4 ⟨rfl, hb3⟩
      have HB3 := Lib.hid (HB2.out.trans (hb3.mono HB2.out.size))
      have hz3 : w.heap.size ≤ w4.heap.size := HB3.out.size
      go_wp2_with fail
      refine (rfCheckFilter_any _ _ his).mono ?_
      rintro e w5 ⟨rfl, hb4⟩
      have hg5 := (hb3.cell (p := ⟨b, off + 1, none⟩) (Nat.lt_of_lt_of_le q3 hb2.size)).trans hg2
      have hz2 := hb3.size
      have hg6 := (hb4.cell (p := ⟨b, off + 1, none⟩) (by have := hb2.size; simp; omega)).trans hg5
      go_wp2_with fail
      go_ret3
      exact ⟨by rw [HV.out]; rfl, HB3.out.trans (hb4.mono hz3)⟩
    · have fi : (chkF (joinT (x :: r)) != 0) = true := by rw [bne_iff_ne]; exact ci
      have HV := Lib.hid (sharedV_none (s := s) (by rw [hsh, if_neg (fun h => ci h.2.2.1)]))
      clear ca hsh hgt cs g0 gs ci
      go_enter Tryz.func85, Tryz.ntmps85
      go_wp2_with fail
      refine (rfLevels_any s _ hs).mono ?_
      rintro e w1 ⟨v, rfl, hown, hb⟩
      obtain ⟨b, off, cap, rfl, q1, q2, q3, q4⟩ := (StrsAt.of_owns hown).open hl.1
      have Q4 := Lib.hid q4
      have HL := Lib.hid hL
      have HN := Lib.hid hnn
      have ha : w1.cell? ⟨b, off, none⟩ = some (.string a) := q4 0 a (by rw [hL]; rfl)
      have hg : w1.cell? ⟨b, off + 1, none⟩ = some (.string g) := q4 1 g (by rw [hL]; rfl)
      clear q4 hown hL
      rw [hnn] at q1 ⊢
      clear hnn
      go_wp2_with fail
      refine (rfCheckFilter_any s _ hs).mono ?_
      rintro e w2 ⟨rfl, hb2⟩
      have HB2 := Lib.hid (hb.trans (hb2.mono hb.size))
      have ha2 := (hb2.cell (p := ⟨b, off, none⟩) q3).trans ha
      have hg2 := (hb2.cell (p := ⟨b, off + 1, none⟩) q3).trans hg
      go_wp2_with fail
      refine (rfSign_any g _ hgs).mono ?_
      rintro e w3 ⟨rfl, rfl⟩
      rw [HG.out]
      go_wp2_with fail
      refine (rfJoin_any (x :: r) _ _ (tail_two HL.out HN.out hn3 q1 q2 Q4.out hb2) (by simp) (by have := HN.out; rw [HL.out] at this; simp at this ⊢; omega) his).mono ?_
      rintro e w4 ⟨rfl, hb3⟩
      have HB3 := Lib.hid (HB2.out.trans (hb3.mono HB2.out.size))
      have hz3 : w.heap.size ≤ w4.heap.size := HB3.out.size
      go_wp2_with fail
      refine (rfCheckFilter_any _ _ his).mono ?_
      rintro e w5 ⟨rfl, hb4⟩
      go_wp2_with fail
      go_ret3
      exact ⟨by rw [HV.out]; rfl, HB3.out.trans (hb4.mono hz3)⟩

/-- Is it a filter, and no shared one? -/
def plainT (s : ByteArray) : Bool := decide (chkF s = 0) && (shared s).isNone

set_option maxHeartbeats 400000 in
theorem rfPlain_any (s : ByteArray) (w : World) (hs : s.size ≤ 1000000000) :
    Calls Tryz.prog 68 #[.string s] w fun e w' => e = .returned (.bool (plainT s)) ∧ Below w.heap.size w w' := by
  cases hsf : shared s with
  | some p =>
    obtain ⟨g, i⟩ := p
    have HS := Lib.hid (sharedV_some hsf)
    have HM := Lib.hid (show plainT s = false from by unfold plainT; rw [hsf]; simp)
    clear hsf
    by_cases cf : chkF s = 0
    · have ff : (chkF s == 0) = true := by rw [cf]; rfl
      clear cf
      go_enter Tryz.func68, Tryz.ntmps68
      go_wp2_with fail
      refine (rfShared_any s _ hs).mono ?_
      rintro e w1 ⟨rfl, hb⟩
      rw [HS.out]
      go_wp2_with fail
      refine (rfCheckFilter_any s _ hs).mono ?_
      rintro e w2 ⟨rfl, hb2⟩
      go_wp2_with fail
      go_ret
      exact ⟨ret_bool HM.out.symm, hb.trans (hb2.mono hb.size)⟩
    · have ff : (chkF s == 0) = false := by rw [beq_eq_false_iff_ne]; exact cf
      clear cf
      go_enter Tryz.func68, Tryz.ntmps68
      go_wp2_with fail
      refine (rfShared_any s _ hs).mono ?_
      rintro e w1 ⟨rfl, hb⟩
      rw [HS.out]
      go_wp2_with fail
      refine (rfCheckFilter_any s _ hs).mono ?_
      rintro e w2 ⟨rfl, hb2⟩
      go_wp2_with fail
      go_ret
      exact ⟨ret_bool HM.out.symm, hb.trans (hb2.mono hb.size)⟩
  | none =>
    have HS := Lib.hid (sharedV_none hsf)
    by_cases cf : chkF s = 0
    · have ff : (chkF s == 0) = true := by rw [cf]; rfl
      have HM := Lib.hid (show plainT s = true from by unfold plainT; rw [hsf, decide_eq_true cf]; rfl)
      clear cf hsf
      go_enter Tryz.func68, Tryz.ntmps68
      go_wp2_with fail
      refine (rfShared_any s _ hs).mono ?_
      rintro e w1 ⟨rfl, hb⟩
      rw [HS.out]
      go_wp2_with fail
      refine (rfCheckFilter_any s _ hs).mono ?_
      rintro e w2 ⟨rfl, hb2⟩
      go_wp2_with fail
      go_ret
      exact ⟨ret_bool HM.out.symm, hb.trans (hb2.mono hb.size)⟩
    · have ff : (chkF s == 0) = false := by rw [beq_eq_false_iff_ne]; exact cf
      have HM := Lib.hid (show plainT s = false from by unfold plainT; rw [hsf, decide_eq_false cf]; rfl)
      clear cf hsf
      go_enter Tryz.func68, Tryz.ntmps68
      go_wp2_with fail
      refine (rfShared_any s _ hs).mono ?_
      rintro e w1 ⟨rfl, hb⟩
      rw [HS.out]
      go_wp2_with fail
      refine (rfCheckFilter_any s _ hs).mono ?_
      rintro e w2 ⟨rfl, hb2⟩
      go_wp2_with fail
      go_ret
      exact ⟨ret_bool HM.out.symm, hb.trans (hb2.mono hb.size)⟩

end Go.Proofs.YtgnffkahlniehaaGreat

/- Proved here: the contract of the reference's Match. -/
namespace Go.Proofs.YtgnffkahlniehaaGreat
open Go.RowKit Go.Proofs.Tp

theorem byte_beq (s : ByteArray) (h : 0 < s.size) (k : UInt8) : (((s[0]'h).toNat : Int) == (k.toNat : Int)) = decide (s[0]'h = k) := by
  by_cases e : s[0]'h = k
  · rw [e, decide_eq_true rfl]; simp
  · rw [decide_eq_false e, beq_eq_false_iff_ne]; intro x; exact e (UInt8.toNat.inj (by omega))

set_option maxHeartbeats 4000000 in
set_option maxRecDepth 1000000 in
theorem rfMatch_any (f t : ByteArray) (w : World) (hs : f.size ≤ 1000000000) (ht : t.size ≤ 1000000000) :
    Calls Tryz.prog 40 #[.string f, .string t] w fun e w' => e = .returned (.bool (matchT f t)) ∧ Below w.heap.size w w' := by
  have hm : matchT f t = if (shared f).isSome ∨ chkF f ≠ 0 ∨ chk t ≠ 0 then false
    else if t.data.toList.head? = some 36 ∧ ((levels f).head?.map (·.data.toList) = some [43] ∨ (levels f).head?.map (·.data.toList) = some [35]) then false
    else goesL (levels f) (levels t) := rfl
  by_cases hp : plainT f = true
  case neg =>
    have HP := Lib.hid (show plainT f = false from by simpa using hp)
    have HM := Lib.hid (show matchT f t = false from by
      rw [hm, if_pos]
      unfold plainT at hp
      by_cases cf : chkF f = 0
      · left
        cases hsf : shared f with
        | none => rw [cf, hsf] at hp; simp at hp
        | some p => rfl
      · exact .inr (.inl cf))
    clear hm hp
    go_enter Tryz.func40, Tryz.ntmps40
    go_wp2_with fail
    refine (rfPlain_any f _ hs).mono ?_
    rintro e w1 ⟨rfl, hb1⟩
    rw [HP.out]
    go_wp2_with fail
    go_ret
    exact ⟨ret_bool HM.out.symm, hb1⟩
  have HP := Lib.hid hp
  have cf : chkF f = 0 := by unfold plainT at hp; rw [Bool.and_eq_true, decide_eq_true_eq] at hp; exact hp.1
  have hsf : (shared f).isSome = false := by
    unfold plainT at hp; rw [Bool.and_eq_true] at hp
    cases hs : shared f with
    | none => rfl
    | some p => rw [hs] at hp; simp at hp
  by_cases ct : chk t = 0
  case neg =>
    have ft : (chk t != 0) = true := by rw [bne_iff_ne]; exact ct
    have HM := Lib.hid (show matchT f t = false from by rw [hm, if_pos (.inr (.inr ct))])
    clear hm hp cf hsf ct
    go_enter Tryz.func40, Tryz.ntmps40
    go_wp2_with fail
    refine (rfPlain_any f _ hs).mono ?_
    rintro e w1 ⟨rfl, hb1⟩
    rw [HP.out]
    go_wp2_with fail
    refine (rfCheck_any t _ ht).mono ?_
    rintro e w2 ⟨rfl, rfl⟩
    go_wp2_with fail
    go_ret
    exact ⟨ret_bool HM.out.symm, hb1⟩
  have ft : (chk t != 0) = false := by rw [ct]; rfl
  have hlf := levels_len f hs
  have hlt := levels_len t ht
  have hto := chk_size ct
  have hfo : 0 < f.size := Nat.pos_of_ne_zero (chkF_zero cf).1
  have hhe := head_eq t hto
  obtain ⟨x, r, hx⟩ : ∃ x r, levels f = x :: r := by
    match hL : levels f with
    | [] => rw [hL] at hlf; simp at hlf
    | x :: r => exact ⟨x, r, rfl⟩
  have hhx : (levels f).head?.map (·.data.toList) = some x.data.toList := by rw [hx]; rfl
  have h43 := first_sign cf hx hfo 43 (.inl rfl)
  have h35 := first_sign cf hx hfo 35 (.inr rfl)
  have b43 := byte_beq f hfo 43
  have b35 := byte_beq f hfo 35
  rw [show ((43 : UInt8).toNat : Int) = 43 from rfl] at b43
  rw [show ((35 : UInt8).toNat : Int) = 35 from rfl] at b35
  rw [if_neg (by rw [hsf]; rintro (h | h | h); exact absurd h (by simp); exact h cf; exact h ct), hhx] at hm
  have htoI : (0 : Int) < (t.size : Int) := by omega
  have hfoI : (0 : Int) < (f.size : Int) := by omega
  by_cases c36 : t[0].toNat = 36
  · have f36 : ((t[0].toNat : Int) == 36) = true := by rw [c36]; rfl
    by_cases c43 : f[0] = 43
    · rw [decide_eq_true c43] at b43
      have HM := Lib.hid (show matchT f t = false from by rw [hm, if_pos ⟨Eq.mpr hhe c36, .inl (by rw [h43.2 c43])⟩])
      clear hm hp cf hsf ct hhe hx hhx h43 h35 b35 c36 c43
      go_enter Tryz.func40, Tryz.ntmps40
      go_wp2_with fail
      refine (rfPlain_any f _ hs).mono ?_
      rintro e w1 ⟨rfl, hb1⟩
      rw [HP.out]
      go_wp2_with fail
      refine (rfCheck_any t _ ht).mono ?_
      rintro e w2 ⟨rfl, rfl⟩
      go_wp2_with fail
      go_ret
      exact ⟨ret_bool HM.out.symm, hb1⟩
    · rw [decide_eq_false c43] at b43
      by_cases c35 : f[0] = 35
      · rw [decide_eq_true c35] at b35
        have HM := Lib.hid (show matchT f t = false from by rw [hm, if_pos ⟨Eq.mpr hhe c36, .inr (by rw [h35.2 c35])⟩])
        clear hm hp cf hsf ct hhe hx hhx h43 h35 c36 c43 c35
        go_enter Tryz.func40, Tryz.ntmps40
        go_wp2_with fail
        refine (rfPlain_any f _ hs).mono ?_
        rintro e w1 ⟨rfl, hb1⟩
        rw [HP.out]
        go_wp2_with fail
        refine (rfCheck_any t _ ht).mono ?_
        rintro e w2 ⟨rfl, rfl⟩
        go_wp2_with fail
        go_ret
        exact ⟨ret_bool HM.out.symm, hb1⟩
      · rw [decide_eq_false c35] at b35
        have HM := Lib.hid (show matchT f t = goesL (levels f) (levels t) from by rw [hm, if_neg (by rintro ⟨_, h | h⟩; exact c43 (h43.1 (Option.some.inj h)); exact c35 (h35.1 (Option.some.inj h)))])
        clear hm hp cf hsf ct hhe hx hhx h43 h35 c36 c43 c35
        go_enter Tryz.func40, Tryz.ntmps40
        go_wp2_with fail
        refine (rfPlain_any f _ hs).mono ?_
        rintro e w1 ⟨rfl, hb1⟩
        rw [HP.out]
        go_wp2_with fail
        refine (rfCheck_any t _ ht).mono ?_
        rintro e w2 ⟨rfl, rfl⟩
        go_wp2_with fail
        refine (rfLevels_any f _ hs).mono ?_
        rintro e w3 ⟨v, rfl, hown, hb3⟩
        obtain ⟨p1, o1, c1, rfl, q1, q2, q3, q4⟩ := (StrsAt.of_owns hown).open hlf.1
        clear hown
        have Q4 := Lib.hid q4
        clear q4
        go_wp2_with fail
        refine (rfLevels_any t _ ht).mono ?_
        rintro e w4 ⟨v5, rfl, hown5, hb4⟩
        obtain ⟨p2, o2, c2, rfl, r1, r2, r3, r4⟩ := (StrsAt.of_owns hown5).open hlt.1
        clear hown5
        have R4 := Lib.hid r4
        have HB := Lib.hid ((hb1.trans (hb3.mono hb1.size)).trans (hb4.mono (Nat.le_trans hb1.size hb3.size)))
        clear r4
        go_wp2_with fail
        refine (rfGoes_walk (levels f) (levels t) p1 o1 c1 p2 o2 c2 _ _ _ rfl rfl q1 r1 q2 r2 (fun i y hy => (hb4.cell (p := ⟨p1, o1 + i, none⟩) q3).trans (Q4.out i y hy)) R4.out).mono ?_
        rintro e w6 ⟨rfl, n6, rfl⟩
        go_wp2_with fail
        go_ret
        exact ⟨ret_bool HM.out.symm, below_drewN HB.out _⟩
  · have f36 : ((t[0].toNat : Int) == 36) = false := by rw [beq_eq_false_iff_ne]; omega
    have HM := Lib.hid (show matchT f t = goesL (levels f) (levels t) from by rw [hm, if_neg (fun h => c36 (Eq.mp hhe h.1))])
    clear hm hp cf hsf ct hhe hx hhx h43 h35 b43 b35 c36
    go_enter Tryz.func40, Tryz.ntmps40
    go_wp2_with fail
    refine (rfPlain_any f _ hs).mono ?_
    rintro e w1 ⟨rfl, hb1⟩
    rw [HP.out]
    go_wp2_with fail
    refine (rfCheck_any t _ ht).mono ?_
    rintro e w2 ⟨rfl, rfl⟩
    go_wp2_with fail
    refine (rfLevels_any f _ hs).mono ?_
    rintro e w3 ⟨v, rfl, hown, hb3⟩
    obtain ⟨p1, o1, c1, rfl, q1, q2, q3, q4⟩ := (StrsAt.of_owns hown).open hlf.1
    clear hown
    have Q4 := Lib.hid q4
    clear q4
    go_wp2_with fail
    refine (rfLevels_any t _ ht).mono ?_
    rintro e w4 ⟨v5, rfl, hown5, hb4⟩
    obtain ⟨p2, o2, c2, rfl, r1, r2, r3, r4⟩ := (StrsAt.of_owns hown5).open hlt.1
    clear hown5
    have R4 := Lib.hid r4
    have HB := Lib.hid ((hb1.trans (hb3.mono hb1.size)).trans (hb4.mono (Nat.le_trans hb1.size hb3.size)))
    clear r4
    go_wp2_with fail
    refine (rfGoes_walk (levels f) (levels t) p1 o1 c1 p2 o2 c2 _ _ _ rfl rfl q1 r1 q2 r2 (fun i y hy => (hb4.cell (p := ⟨p1, o1 + i, none⟩) q3).trans (Q4.out i y hy)) R4.out).mono ?_
    rintro e w6 ⟨rfl, n6, rfl⟩
    go_wp2_with fail
    go_ret
    exact ⟨ret_bool HM.out.symm, below_drewN HB.out _⟩

end Go.Proofs.YtgnffkahlniehaaGreat
