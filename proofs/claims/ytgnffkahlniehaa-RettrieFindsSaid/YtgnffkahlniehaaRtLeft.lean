/- Proved here: rettrie.left, what is left of a filter behind an edge. -/
import Derived.Test.YtgnffkahlniehaaRtLib
namespace Go.Proofs.Ytgnffkahlniehaa
open Go Go.RowKit Go.Proofs.Gs Go.Proofs.Tri Go.Proofs.Rt Go.Proofs.Tp

def hashB (x : ByteArray) : Bool := decide (x.data.toList = [35])
def plusB (x : ByteArray) : Bool := decide (x.data.toList = [43])

theorem str_eq (x : ByteArray) (l : List UInt8) : (x.toList == l) = decide (x.data.toList = l) := by
  rw [Lib.toList_data, Bool.eq_iff_iff]; simp

/-- What left answers. -/
def LeftPost (G : Nat → Prop) (w : World) (r : Option (List ByteArray)) (e : Ending) : Prop :=
  match r with
  | some g => ∃ v, e = .returned (.tuple #[v, .bool true]) ∧ StrsF G w v g
  | none => ∃ v, e = .returned (.tuple #[v, .bool false])

/-- A cut s[1:]. -/
theorem strs_tail {w : World} {b o c n : Nat} {x : ByteArray} {L : List ByteArray} (hn : L.length = n) (hc : n + 1 ≤ c) (hm : c ≤ 9223372036854775807)
    (h : ∀ i y, (x :: L)[i]? = some y → w.cell? ⟨b, o + i, none⟩ = some (.string y)) : StrsAt w (.slice (if c = 1 then some ⟨b, o, none⟩ else some ⟨b, o + 1, none⟩) n (c - 1)) L := by
  subst hn
  refine ⟨_, _, rfl, by omega, by unfold maxLen; omega, ?_⟩
  by_cases h1 : c = 1
  · left; exact List.eq_nil_of_length_eq_zero (by omega)
  · right
    rw [if_neg h1]
    exact ⟨b, o + 1, rfl, fun i y hy => by rw [Nat.add_assoc, Nat.add_comm 1 i]; exact h (i + 1) y hy⟩

theorem strsF_tail {G : Nat → Prop} {w : World} {b o c n : Nat} {x : ByteArray} {L : List ByteArray} (hF : StrsF G w (.slice (some ⟨b, o, none⟩) (n + 1) c) (x :: L)) (hn : L.length = n) (hc : n + 1 ≤ c) (hm : c ≤ 9223372036854775807)
    (h : ∀ i y, (x :: L)[i]? = some y → w.cell? ⟨b, o + i, none⟩ = some (.string y)) : StrsF G w (.slice (if c = 1 then some ⟨b, o, none⟩ else some ⟨b, o + 1, none⟩) n (c - 1)) L := by
  refine ⟨RowAt.of_strs (strs_tail hn hc hm h), fun g e => ?_⟩
  have hb := hF.2 b rfl
  by_cases h1 : c = 1
  · rw [if_pos h1] at e; injection e with e; rw [← e]; exact hb
  · rw [if_neg h1] at e; injection e with e; rw [← e]; exact hb

set_option maxHeartbeats 2000000 in
set_option maxRecDepth 100000 in
theorem left_any {G : Nat → Prop} {w : World} {v1 v2 : Value} {F E : List ByteArray} (h1 : StrsF G w v1 F) (h2 : StrsAt w v2 E) (hE : E.length ≤ 1000000001) :
    Calls Try.prog 59 #[v1, v2] w fun e w' => LeftPost G w (left hashB plusB F E) e ∧ w' = w := by
  obtain ⟨a2, c2, rfl, q1, q2, q3⟩ := h2
  unfold maxLen at q2
  have hcell : ∀ i x, E[i]? = some x → ∃ b off, a2 = some ⟨b, off, none⟩ ∧ w.cell? ⟨b, off + i, none⟩ = some (.string x) := by
    intro i x hx
    rcases q3 with rfl | ⟨b, off, rfl, hc⟩
    · simp at hx
    · exact ⟨b, off, rfl, hc i x hx⟩
  obtain ⟨m, hm⟩ : ∃ m, E.length = m := ⟨_, rfl⟩
  rw [hm] at q1 hE ⊢
  have HC := Lib.hid hcell
  have HM := Lib.hid hm
  have H1 := Lib.hid h1
  obtain ⟨af, cf, rfl, f1, f2, -⟩ := h1.strs
  obtain ⟨nf, hnf⟩ : ∃ nf, F.length = nf := ⟨_, rfl⟩
  rw [hnf] at H1 f1 ⊢
  clear hcell hm q3 q1 hnf f1 f2
  go_enter Try.func59, Try.ntmps59
  go_wp2_with fail
  go_loopg [0, 7, 10] m (fun g fv s i wr => ∃ (j : Nat) (F' : List ByteArray), j + g = m ∧ i = .int .i64 (j : Nat) ∧ StrsF G w fv F' ∧ left hashB plusB F E = left hashB plusB F' (E.drop j) ∧ wr = w)
  case atStart => exact ⟨0, F, by omega, rfl, H1.out, rfl, rfl⟩
  case round =>
    obtain ⟨j, F', hj, rfl, hF, heq, rfl⟩ := hrel
    have HEQ := Lib.hid heq
    clear heq
    cases gk with
    | zero =>
      obtain rfl : j = m := by omega
      have hd : decide ((j : Int) < (j : Int)) = false := decide_eq_false (by omega)
      have hfin : left hashB plusB F E = some F' := by
        rw [HEQ.out, List.drop_of_length_le (by have := HM.out; omega)]
        cases F' <;> rfl
      have HFIN := Lib.hid hfin
      have HF := Lib.hid hF
      clear hfin hF
      go_wp2_with fail
      go_ret2
      exact ⟨by rw [HFIN.out]; exact ⟨_, rfl, HF.out⟩, rfl⟩
    | succ gk =>
      have hjm : j < m := by omega
      have hd : decide ((j : Int) < (m : Int)) = true := decide_eq_true (by omega)
      obtain ⟨s, hs⟩ : ∃ s, E[j]? = some s := ⟨_, List.getElem?_eq_getElem (by have := HM.out; omega)⟩
      obtain ⟨b2, o2, rfl, k2⟩ := HC.out j s hs
      have hdr : E.drop j = s :: E.drop (j + 1) := drop_at hs
      have hb1 : (0 : Int) ≤ (j : Int) := by omega
      have hb2 : (j : Int) < (m : Int) := by omega
      have HDR := Lib.hid hdr
      clear hs hdr
      cases F' with
      | nil =>
        obtain ⟨a1, c1, rfl⟩ := hF.strs.open_nil
        have hfin : left hashB plusB F E = none := by rw [HEQ.out, HDR.out]; rfl
        have HFIN := Lib.hid hfin
        clear hfin hF
        go_wp2_with fail
        go_ret2
        exact ⟨by rw [HFIN.out]; exact ⟨_, rfl⟩, rfl⟩
      | cons x F' =>
        obtain ⟨b1, o1, c1, rfl, p1, p2, p3, p4⟩ := hF.strs.open (by simp)
        have k1 := p4 0 x rfl
        rw [Nat.add_zero] at k1
        obtain ⟨n, hn⟩ : ∃ n, F'.length = n := ⟨_, rfl⟩
        have hlen : (x :: F').length = n + 1 := by simp [hn]
        rw [hlen] at hF p1 ⊢
        have hl0 : ((n : Int) + 1 == 0) = false := by rw [beq_eq_false_iff_ne]; omega
        have hl1 : (((n + 1 : Nat) : Int) == 0) = false := by rw [beq_eq_false_iff_ne]; omega
        have hb3 : (0 : Int) < (n : Int) + 1 := by omega
        have HF := Lib.hid hF
        have HT := Lib.hid (strsF_tail hF hn p1 p2 p4)
        clear hF p4 hlen hn
        by_cases hx : x.data.toList = [35]
        · have hx1 : (x.toList == [35]) = true := by rw [str_eq, decide_eq_true hx]
          have hfin : left hashB plusB F E = some (x :: F') := by rw [HEQ.out, HDR.out, left, if_pos (by unfold hashB; exact decide_eq_true hx)]
          have HFIN := Lib.hid hfin
          clear hfin hx
          go_wp2_with fail
          go_ret2
          exact ⟨by rw [HFIN.out]; exact ⟨_, rfl, HF.out⟩, rfl⟩
        · have hx1 : (x.toList == [35]) = false := by rw [str_eq, decide_eq_false hx]
          have hstep : left hashB plusB F E = if plusB x || decide (x = s) then left hashB plusB F' (E.drop (j + 1)) else none := by
            rw [HEQ.out, HDR.out, left, if_neg (by unfold hashB; simpa using hx)]
          have HST := Lib.hid hstep
          clear hstep hx
          by_cases hp : x.data.toList = [43]
          · have hp1 : (x.toList == [43]) = true := by rw [str_eq, decide_eq_true hp]
            have hp2 : (x.toList != [43]) = false := by unfold bne; rw [hp1]; rfl
            have hfin : left hashB plusB F E = left hashB plusB F' (E.drop (j + 1)) := by rw [HST.out, if_pos (by unfold plusB; simp [hp])]
            have HFIN := Lib.hid hfin
            clear hfin hp
            by_cases hc1 : c1 = 1
            all_goals
              have ht := HT.out
              first | rw [if_pos hc1] at ht | rw [if_neg hc1] at ht
              have HT2 := Lib.hid ht
              clear ht
              go_wp2_with fail
              go_roundg gk
              case measure => omega
              case rel => exact ⟨j + 1, F', by omega, by go_num, by first | exact HT2.out | (have h := HT2.out; rw [hc1] at h; exact h) | simpa using HT2.out, HFIN.out, rfl⟩
          · have hp1 : (x.toList == [43]) = false := by rw [str_eq, decide_eq_false hp]
            have hp2 : (x.toList != [43]) = true := by unfold bne; rw [hp1]; rfl
            by_cases hxs : x = s
            · have hs1 : (x.toList == s.toList) = true := by rw [hxs]; simp
              have hs2 : (x.toList != s.toList) = false := by rw [hxs]; simp
              have hfin : left hashB plusB F E = left hashB plusB F' (E.drop (j + 1)) := by rw [HST.out, if_pos (by simp [hxs])]
              have HFIN := Lib.hid hfin
              clear hfin hp hxs
              by_cases hc1 : c1 = 1
              all_goals
                have ht := HT.out
                first | rw [if_pos hc1] at ht | rw [if_neg hc1] at ht
                have HT2 := Lib.hid ht
                clear ht
                go_wp2_with fail
                go_roundg gk
                case measure => omega
                case rel => exact ⟨j + 1, F', by omega, by go_num, by first | exact HT2.out | (have h := HT2.out; rw [hc1] at h; exact h) | simpa using HT2.out, HFIN.out, rfl⟩
            · have hne : x.toList ≠ s.toList := fun e => hxs (ba_ext (by rwa [Lib.toList_data, Lib.toList_data] at e))
              have hs1 : (x.toList == s.toList) = false := by rw [beq_eq_false_iff_ne]; exact hne
              have hs2 : (x.toList != s.toList) = true := by rw [bne_iff_ne]; exact hne
              have hfin : left hashB plusB F E = none := by rw [HST.out, if_neg (by unfold plusB; simp [hp, hxs])]
              have HFIN := Lib.hid hfin
              clear hfin hp hxs hne
              go_wp2_with fail
              go_ret2
              exact ⟨by rw [HFIN.out]; exact ⟨_, rfl⟩, rfl⟩
end Go.Proofs.Ytgnffkahlniehaa
