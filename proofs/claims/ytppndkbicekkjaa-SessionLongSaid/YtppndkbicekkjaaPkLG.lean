/- Proved here: crierlaw13.SessionLong's walk. -/
import Derived.Test.YtppndkbicekkjaaPkLF
import Derived.Test.YtppndkbicekkjaaRows
import Derived.Deep.Slices
import Derived.Deep.Strs
import Derived.ChangeOld
import Derived.Carry
import Derived.WalkKit
import Derived.ProofKit
import Derived.SizedLaws
namespace Go.Proofs.Ytppndkbicekkjaa
open Go Go.RowKit Go.Proofs.Gs Go.Proofs.Rt Go.Proofs.Sw
open Go.Proofs.Cc (Turn Grow)

def lS (mo win que i : Nat) : Ses := ⟨⟨#[107]⟩, true, mo, [], [], longW win que i⟩
theorem lS_good (mo win que i : Nat) (h : mo ≤ 65536) : GoodS (lS mo win que i) := ⟨List.Pairwise.nil, h, Nat.zero_le _, by simp [lS]⟩
theorem long_small {win que : Nat} (_h1 : 1 ≤ win) (h2 : win ≤ 65535) (h3 : que ≤ 65536) (i : Nat) : Small (longW win que i) := ⟨h2, h3, lastAt_le i, Nat.zero_le _, Nat.zero_le _, by simp [longW], by simp [longW]⟩
theorem one_small {win que : Nat} (h1 : 1 ≤ win) (h2 : win ≤ 65535) (h3 : que ≤ 65536) (i : Nat) (q : Int) : Small (oneW win que i (nMsg q)) := ⟨h2, h3, by show i % 65535 + 1 ≤ 65535; have := Nat.mod_lt i (show 0 < 65535 by omega); omega, h1, Nat.zero_le _, by simp [oneW, nMsg], by simp [oneW]⟩
theorem rel_small {win que : Nat} (h1 : 1 ≤ win) (h2 : win ≤ 65535) (h3 : que ≤ 65536) (i : Nat) : Small (relW win que i) := ⟨h2, h3, by show i % 65535 + 1 ≤ 65535; have := Nat.mod_lt i (show 0 < 65535 by omega); omega, h1, Nat.zero_le _, by simp [relW, noMsg], by simp [relW]⟩
theorem long_deliv (mo win que i : Nat) (q : Int) (h : 0 < win) (hq : q = 1 ∨ q = 2) : delivW (lS mo win que i) (nMsg q) = ({ lS mo win que i with win := oneW win que i (nMsg q) }, [⟨3, i % 65535 + 1, false, nMsg q⟩], true) := by
  unfold delivW
  rw [if_neg (by show ¬ q = 0; omega), if_pos (by unfold sendable nMsg; simp; exact hq)]
  show ({ lS mo win que i with win := (sendW (longW win que i) (nMsg q)).1 }, (sendW (longW win que i) (nMsg q)).2.1, (sendW (longW win que i) (nMsg q)).2.2) = _
  rw [long_send win que i (nMsg q) h]

set_option maxHeartbeats 8000000 in
set_option maxRecDepth 100000 in
theorem sessionLong_any (a1 a2 : Int) (w : World) {a b c : Int} {v0 v1 v5 v6 v7 v8 v9 v10 v11 : Value} (h1 : ∀ u ∈ [v0, v1, v5, v6, v7, v8, v9, v10, v11], u.oneCell' = true) (r1 : -9223372036854775808 ≤ a1 ∧ a1 ≤ 9223372036854775807) (r2 : -9223372036854775808 ≤ a2 ∧ a2 ≤ 9223372036854775807) :
    Calls Try.prog 3 #[.agg #[v0, v1, .int .i64 a, .int .i64 b, .int .i64 c, v5, v6, v7, v8, v9, v10, v11], .int .i64 a1, .int .i64 a2] w fun e w' => e = .returned (.bool true) ∧ Below w.heap.size w w' := by
  obtain ⟨W0, hW0⟩ : ∃ W0, w.alloc (.cells #[v0, v1, .int .i64 a, .int .i64 b, .int .i64 c, v5, v6, v7, v8, v9, v10, v11] 25) = W0 := ⟨_, rfl⟩
  have g0 : W0.heap[w.heap.size]? = some (.cells #[v0, v1, .int .i64 a, .int .i64 b, .int .i64 c, v5, v6, v7, v8, v9, v10, v11] 25 (0, 0)) := by rw [← hW0]; exact (MapKept.heap_alloc w _).1
  have hb0 : Below w.heap.size w W0 := by rw [← hW0]; exact (Below.refl _ _).alloc (Nat.le_refl _) _
  have y0 := cell4' g0 0 _ rfl
  have y1 := cell4' g0 1 _ rfl
  have y2 := cell4' g0 2 _ rfl
  have y3 := cell4' g0 3 _ rfl
  have y4 := cell4' g0 4 _ rfl
  have y5 := cell4' g0 5 _ rfl
  have y6 := cell4' g0 6 _ rfl
  have y7 := cell4' g0 7 _ rfl
  have y8 := cell4' g0 8 _ rfl
  have y9 := cell4' g0 9 _ rfl
  have y10 := cell4' g0 10 _ rfl
  have y11 := cell4' g0 11 _ rfl
  have HB0 := Lib.hid hb0
  have HW0 := Lib.hid hW0
  have H1 := Lib.hid h1
  clear g0 hb0 hW0 h1
  go_enter Try.func3, Try.ntmps3
  go_upto_region 1 with fail
  rw [HW0.out]
  go_wp2_with fail
  refine (lwPlace_any a2 140000 W0 (by omega) (by omega) r2.1 r2.2).mono ?_
  rintro e wx ⟨⟨n, rfl, hn⟩, hwx⟩
  obtain rfl := hwx
  go_wp2_with fail
  refine (lwPlace_any a1 2 W0 (by omega) (by omega) r1.1 r1.2).mono ?_
  rintro e wx ⟨⟨q, rfl, hq⟩, hwx⟩
  obtain rfl := hwx
  have hqw : IntKind.i64.wrap (1 + (q : Int)) = 1 + (q : Int) := by rw [IntKind.wrap_i64]; omega
  go_wp2_with fail
  refine (newS_any (a := a) (b := b) (c := c) H1.out).mono ?_
  rintro e w0 ⟨sb, M0, rfl, hs0, hb1, hm0⟩
  obtain ⟨mo, hmo⟩ : ∃ mo, within c 0 65536 = mo := ⟨_, rfl⟩
  obtain ⟨win, hwin⟩ : ∃ win, within a 1 65535 = win := ⟨_, rfl⟩
  obtain ⟨que, hque⟩ : ∃ que, within b 0 65536 = que := ⟨_, rfl⟩
  have b1 := within_range c 0 65536 (by omega) (by omega)
  have b2 := within_range a 1 65535 (by omega) (by omega)
  have b3 := within_range b 0 65536 (by omega) (by omega)
  rw [hmo] at hs0 b1
  rw [hwin] at hs0 b2
  rw [hque] at hs0 b3
  have HB := Lib.hid (HB0.out.trans (hb1.mono HB0.out.size))
  have HM0 := Lib.hid (fun x (hx : M0 x) => (by have := hm0 x hx; have := HB0.out.size; omega : w.heap.size ≤ x))
  have HB1 := Lib.hid b1
  have HB2 := Lib.hid b2
  have HB3 := Lib.hid b3
  have HS0 := Lib.hid hs0
  clear hs0 hb1 hm0 b1 b2 b3 hmo hwin hque y0 y1 y2 y3 y4 y5 y6 y7 y8 y9 y10 y11
  go_wp2_with fail
  refine (known_any w0).mono ?_
  rintro e wk ⟨rfl, hbk⟩
  have HS1 := Lib.hid (HS0.out.below hbk)
  have HBK := Lib.hid hbk
  clear hbk
  obtain ⟨wb, cb, hc⟩ := ses_up HS1.out ⟨by have := HB2.out; show win ≤ 65535; omega, by have := HB3.out; show que ≤ 65536; omega, by show 0 ≤ 65535; omega, Nat.zero_le _, Nat.zero_le _, by simp, by simp⟩
  have HC := Lib.hid hc
  clear hc
  go_wp2_with fail
  refine HC.out.mono ?_
  rintro e w1 ⟨vu, M1, F1, rfl, _, hp1⟩
  have HP1 := Lib.hid (show SesPost M0 (fun _ => False) M1 F1 wk w1 sb (lS mo win que 0) from hp1)
  clear HC cb hp1
  go_wp2_with fail
  obtain ⟨Q, hQ⟩ : ∃ Q : Int, 1 + (q : Int) = Q := ⟨_, rfl⟩
  have hQ12 : Q = 1 ∨ Q = 2 := by omega
  rw [hQ]
  have HQ := Lib.hid hQ12
  have HN := Lib.hid hn
  clear hQ hqw hQ12 hq hn
  go_loopg [10] n (fun g s10 wr => ∃ (i : Nat) (M F : Nat → Prop), i + g = n ∧ s10 = .int .i64 (i : Nat) ∧ SesPost M0 (fun _ => False) M F wk wr sb (lS mo win que i))
  case atStart => exact ⟨0, M1, F1, by omega, rfl, HP1.out⟩
  case round =>
    obtain ⟨i, M, F, hig, rfl, hp⟩ := hrel
    have HP := Lib.hid hp
    clear hp
    cases gk with
    | zero =>
      obtain rfl : i = n := by omega
      have hd : decide ((i : Int) < (i : Int)) = false := decide_eq_false (by omega)
      have HC := Lib.hid (image0_any HP.out.at' (show Small (longW win que i) from long_small (by have := HB2.out; omega) (by have := HB2.out; omega) (by have := HB3.out; omega) i) (lS_good mo win que i (by have := HB1.out; omega)) rfl)
      have HLAST := Lib.hid (show (lS mo win que i).win.last = lastAt i from rfl)
      clear hig
      go_wp2_with fail
      refine HC.out.mono ?_
      rintro e w5 ⟨vi, rfl, hi, hbi⟩
      obtain ⟨sv, s1, s2, Z1, Z2, rfl, hsv, hg1, hg2, -, -⟩ := hi
      obtain ⟨a1', c1', e1⟩ := hg1.slice
      obtain ⟨a2', c2', e2⟩ := hg2.slice
      subst e1
      subst e2
      obtain ⟨_, a3', c3', e3, _⟩ := RowAt.of_owns hsv
      subst e3
      have HFIN := Lib.hid (HP.out.back (w0 := w) (HB.out.trans (HBK.out.mono HB.out.size)) HM0.out |>.trans (hbi.mono (by have := HP.out.turn.size; have := (HB.out.trans (HBK.out.mono HB.out.size)).size; omega)))
      clear HC hsv hg1 hg2 hbi
      go_upto_region 20 with fail
      dsimp only [lS, longW, List.length_nil]
      have hl := lastAt_le i
      by_cases hi0 : i = 0
      · subst hi0
        go_wp2_with fail
        go_ret
        exact ⟨rfl, HFIN.out.alloc HFIN.out.size _⟩
      · have hi1 : ((i : Int) == 0) = false := by rw [beq_eq_false_iff_ne]; omega
        have hw1 : IntKind.i64.wrap ((i : Int) - 1) = (i : Int) - 1 := by rw [IntKind.wrap_i64]; have := HN.out; omega
        have hl2 : ((lastAt i : Nat) : Int) = ((i : Int) - 1) % 65535 + 1 := by unfold lastAt; rw [if_neg hi0]; omega
        have hl3 : (((lastAt i : Nat) : Int) == ((i : Int) - 1) % 65535 + 1) = true := by rw [beq_iff_eq]; exact hl2
        go_wp2_with fail
        go_ret
        exact ⟨rfl, HFIN.out.alloc HFIN.out.size _⟩
    | succ gk =>
      have hd : decide ((i : Int) < (n : Int)) = true := decide_eq_true (by omega)
      have hq2 : (i : Int) < (n : Int) := by omega
      have hlt : i < n := by omega
      have hwi : IntKind.i64.wrap ((i : Int) + 1) = (i : Int) + 1 := by rw [IntKind.wrap_i64]; have := HN.out; omega
      have HIG := Lib.hid hig
      have hw1 : 0 < win := by have := HB2.out; omega
      have hc := deliver_any (S := lS mo win que i) (m := nMsg Q) HP.out.at' (long_small (by have := HB2.out; omega) (by have := HB2.out; omega) (by have := HB3.out; omega) i) (nMsg_val (fun _ => False) _ Q) (fun b hb => hb.elim) (by simp [nMsg]) (.inr (by unfold sendable nMsg; simp; exact HQ.out))
      rw [long_deliv mo win que i Q hw1 HQ.out] at hc
      obtain ⟨id, hid⟩ : ∃ id, i % 65535 + 1 = id := ⟨_, rfl⟩
      rw [hid] at hc
      have HID := Lib.hid hid
      have HC := Lib.hid hc
      clear hc hid hig hw1
      go_wp2_with fail
      refine HC.out.mono ?_
      rintro e w5 ⟨v5', M5, F5, rfl, hk5, hp5⟩
      have HP5 := Lib.hid (HP.out.trans hp5)
      obtain ⟨b5, o5, c5, pv5, e5, h5⟩ := hk5.at (i := 0) (p := ⟨3, id, false, nMsg Q⟩) rfl
      subst e5
      have x0 := h5 0 _ rfl
      have x16 := h5 16 _ rfl
      have x21 := h5 21 _ rfl
      simp only [Nat.zero_mul, Nat.zero_add, Nat.add_zero] at x0 x16 x21
      clear HC hk5 hp5 h5
      go_upto_region 11 with fail
      have hI : (i : Int) % 65535 + 1 = ((id : Nat) : Int) := by have := HID.out; omega
      rw [hI]
      clear hI
      have s1 : 1 ≤ win := by have := HB2.out; omega
      have s2 : win ≤ 65535 := by have := HB2.out; omega
      have s3 : que ≤ 65536 := by have := HB3.out; omega
      obtain ⟨wb5, cb5, hack⟩ := ses_ack HP5.out.at' (show Small (oneW win que i (nMsg Q)) from one_small s1 s2 s3 i Q)
      rcases HQ.out with hQ1 | hQ2
      · subst hQ1
        have hA : ackW (oneW win que i (nMsg 1)) 4 id = (longW win que (i + 1), []) := by rw [← HID.out]; exact long_ack win que i (nMsg 1) rfl
        have hc : Calls Try.prog 12 #[.pointer (some ⟨wb5, 0, none⟩), .int .i64 4, .int .i64 (id : Nat)] w5 fun e w' => ∃ v M' F', e = .returned v ∧ PksGro w5.heap.size M' F' w' v [] ∧ SesPost M5 F5 M' F' w5 w' sb (lS mo win que (i + 1)) := by
          have h := hack 4 id
          rw [show ({ lS mo win que i with win := oneW win que i (nMsg 1) } : Ses).win = oneW win que i (nMsg 1) from rfl, hA] at h
          exact h
        have HC := Lib.hid hc
        clear hc hack hA s1 s2 s3
        go_wp2_with fail
        refine HC.out.mono ?_
        rintro e w6 ⟨v6', M6, F6, rfl, hk6, hp6⟩
        have HP6 := Lib.hid (HP5.out.trans hp6)
        obtain ⟨a6, c6, e6⟩ := hk6.slice
        subst e6
        clear HC hk6 hp6 cb5 x0 x16 x21
        go_wp2_with fail
        go_roundg gk
        case measure => omega
        case rel => exact ⟨i + 1, M6, F6, by have := HIG.out; omega, by go_num, HP6.out⟩
      · subst hQ2
        have hA : ackW (oneW win que i (nMsg 2)) 5 id = (relW win que i, [⟨6, id, false, noMsg⟩]) := by rw [← HID.out]; exact long_rec win que i (nMsg 2) rfl
        have hc : Calls Try.prog 12 #[.pointer (some ⟨wb5, 0, none⟩), .int .i64 5, .int .i64 (id : Nat)] w5 fun e w' => ∃ v M' F', e = .returned v ∧ PksGro w5.heap.size M' F' w' v [⟨6, id, false, noMsg⟩] ∧ SesPost M5 F5 M' F' w5 w' sb { lS mo win que i with win := relW win que i } := by
          have h := hack 5 id
          rw [show ({ lS mo win que i with win := oneW win que i (nMsg 2) } : Ses).win = oneW win que i (nMsg 2) from rfl, hA] at h
          exact h
        have HC := Lib.hid hc
        clear hc hack hA
        have HSS := Lib.hid (And.intro s1 (And.intro s2 s3))
        clear s1 s2 s3
        go_wp2_with fail
        refine HC.out.mono ?_
        rintro e w6 ⟨v6', M6, F6, rfl, hk6, hp6⟩
        have HP6 := Lib.hid (HP5.out.trans hp6)
        obtain ⟨b6, o6, c6, pv6, e6, h6⟩ := hk6.at (i := 0) (p := ⟨6, id, false, noMsg⟩) rfl
        subst e6
        have z0 := h6 0 _ rfl
        have z21 := h6 21 _ rfl
        simp only [Nat.zero_mul, Nat.zero_add, Nat.add_zero] at z0 z21
        obtain ⟨wb6, cb6, hack6⟩ := ses_ack HP6.out.at' (show Small (relW win que i) from rel_small HSS.out.1 HSS.out.2.1 HSS.out.2.2 i)
        have hA : ackW (relW win que i) 7 id = (longW win que (i + 1), []) := by rw [← HID.out]; exact long_comp win que i
        have hc : Calls Try.prog 12 #[.pointer (some ⟨wb6, 0, none⟩), .int .i64 7, .int .i64 (id : Nat)] w6 fun e w' => ∃ v M' F', e = .returned v ∧ PksGro w6.heap.size M' F' w' v [] ∧ SesPost M6 F6 M' F' w6 w' sb (lS mo win que (i + 1)) := by
          have h := hack6 7 id
          rw [show ({ lS mo win que i with win := relW win que i } : Ses).win = relW win que i from rfl, hA] at h
          exact h
        have HC7 := Lib.hid hc
        clear HC hk6 hp6 cb5 x0 x16 x21 h6 hack6 hA hc
        go_wp2_with fail
        refine HC7.out.mono ?_
        rintro e w7 ⟨v7', M7, F7, rfl, hk7, hp7⟩
        have HP7 := Lib.hid (HP6.out.trans hp7)
        obtain ⟨a7, c7, e7⟩ := hk7.slice
        subst e7
        clear HC7 hk7 hp7 cb6 z0 z21
        go_wp2_with fail
        go_roundg gk
        case measure => omega
        case rel => exact ⟨i + 1, M7, F7, by have := HIG.out; omega, by go_num, HP7.out⟩
end Go.Proofs.Ytppndkbicekkjaa

/- Proved here: a setup that came in, opened: its twelve cells. Arguments read again as they did. -/
namespace Go.Proofs.Ytppndkbicekkjaa
open Go Go.RowKit Go.WideShapes Go.ChangeShapes Go.Deep

section
variable {H : Type} {enc : TypeId × Value → H}

set_option maxRecDepth 100000 in
theorem cells_agg {v : Value} (h : v.cells.size = 12) : ∃ cs, v = .agg cs ∧ v.cells = cs := by
  by_cases hv : ∃ cs, v = .agg cs
  · obtain ⟨cs, rfl⟩ := hv
    exact ⟨cs, rfl, rfl⟩
  · exfalso
    have e : v.cells = #[v] := by
      unfold Value.cells
      split
      · exact absurd ⟨_, rfl⟩ hv
      · rfl
    rw [e] at h
    simp at h
set_option maxRecDepth 100000 in
theorem slice_one {W : World} {n : Nat} {t e : TypeId} {c : Value} {x : DataW H × List MemPlace} (ht : Try.prog.underlying t = some (.slice e)) (h : DataW.trod enc Try.prog W 0 (fun _ => true) true n t [c] = some x) : c.oneCell' = true := by
  rcases open_slice ht h with ⟨hcs, _⟩ | ⟨a, len, cap, m, n', D, Pl, hcs, _⟩ <;> (injection hcs with hcs; subst hcs; rfl)

set_option maxRecDepth 100000 in
/-- A setup that came in. -/
theorem open_config {W : World} {v : Value} {d : DataW H} {ps : List MemPlace} (h : DataW.Trod enc Try.prog W 0 (fun _ => true) true 25 v d ps) :
    ∃ (v0 v1 v5 v6 v7 v8 v9 v10 v11 : Value) (a b c : Int), v = .agg #[v0, v1, .int .i64 a, .int .i64 b, .int .i64 c, v5, v6, v7, v8, v9, v10, v11] ∧ ∀ u ∈ [v0, v1, v5, v6, v7, v8, v9, v10, v11], u.oneCell' = true := by
  obtain ⟨n, h⟩ := h
  obtain ⟨xs, m, _, hx, hl, hxl, hf⟩ := DataW.trod_struct Try.underlying25 h
  have hc12 : Try.prog.cellsOf 25 = 12 := by kernel_rfl
  rw [hc12] at hl
  obtain ⟨cs, rfl, hcs⟩ := cells_agg (v := v) (by simpa using hl)
  rw [hcs] at hl hf
  obtain ⟨l⟩ := cs
  match l, hl with
  | [c0, c1, c2, c3, c4, c5, c6, c7, c8, c9, c10, c11], _ =>
    have k3 : Try.prog.cellsOf 3 = 1 := by kernel_rfl
    have k4 : Try.prog.cellsOf 4 = 1 := by kernel_rfl
    have k22 : Try.prog.cellsOf 22 = 1 := by kernel_rfl
    have k23 : Try.prog.cellsOf 23 = 1 := by kernel_rfl
    have f0 := hf 0 { name := "List", type := 4, offset := 0, embedded := false, tag := "", pkgPath := "", byteOffset := 0 } rfl
    have f1 := hf 1 { name := "Cache", type := 3, offset := 1, embedded := false, tag := "", pkgPath := "", byteOffset := 8 } rfl
    have f2 := hf 2 { name := "Window", type := 3, offset := 2, embedded := false, tag := "", pkgPath := "", byteOffset := 16 } rfl
    have f3 := hf 3 { name := "Queue", type := 3, offset := 3, embedded := false, tag := "", pkgPath := "", byteOffset := 24 } rfl
    have f4 := hf 4 { name := "Subs", type := 3, offset := 4, embedded := false, tag := "", pkgPath := "", byteOffset := 32 } rfl
    have f5 := hf 5 { name := "Retained", type := 3, offset := 5, embedded := false, tag := "", pkgPath := "", byteOffset := 40 } rfl
    have f6 := hf 6 { name := "Sessions", type := 3, offset := 6, embedded := false, tag := "", pkgPath := "", byteOffset := 48 } rfl
    have f7 := hf 7 { name := "Most", type := 3, offset := 7, embedded := false, tag := "", pkgPath := "", byteOffset := 56 } rfl
    have f8 := hf 8 { name := "Patience", type := 3, offset := 8, embedded := false, tag := "", pkgPath := "", byteOffset := 64 } rfl
    have f9 := hf 9 { name := "Users", type := 22, offset := 9, embedded := false, tag := "", pkgPath := "", byteOffset := 72 } rfl
    have f10 := hf 10 { name := "Rules", type := 23, offset := 10, embedded := false, tag := "", pkgPath := "", byteOffset := 96 } rfl
    have f11 := hf 11 { name := "Room", type := 3, offset := 11, embedded := false, tag := "", pkgPath := "", byteOffset := 120 } rfl
    simp only [k3, k4, k22, k23] at f0 f1 f2 f3 f4 f5 f6 f7 f8 f9 f10 f11
    simp at hxl
    match xs, hxl with
    | [x0, x1, x2, x3, x4, x5, x6, x7, x8, x9, x10, x11], _ =>
      obtain ⟨q0, e0, _⟩ := DataW.trod_bool Try.underlying4 f0
      obtain rfl : c0 = .bool q0 := List.head_eq_of_cons_eq (show c0 :: [] = _ :: [] from e0)
      obtain ⟨q1, e1, _, _⟩ := DataW.trod_int Try.underlying3 f1
      obtain rfl : c1 = .int .i64 q1 := List.head_eq_of_cons_eq (show c1 :: [] = _ :: [] from e1)
      obtain ⟨q2, e2, _, _⟩ := DataW.trod_int Try.underlying3 f2
      obtain rfl : c2 = .int .i64 q2 := List.head_eq_of_cons_eq (show c2 :: [] = _ :: [] from e2)
      obtain ⟨q3, e3, _, _⟩ := DataW.trod_int Try.underlying3 f3
      obtain rfl : c3 = .int .i64 q3 := List.head_eq_of_cons_eq (show c3 :: [] = _ :: [] from e3)
      obtain ⟨q4, e4, _, _⟩ := DataW.trod_int Try.underlying3 f4
      obtain rfl : c4 = .int .i64 q4 := List.head_eq_of_cons_eq (show c4 :: [] = _ :: [] from e4)
      obtain ⟨q5, e5, _, _⟩ := DataW.trod_int Try.underlying3 f5
      obtain rfl : c5 = .int .i64 q5 := List.head_eq_of_cons_eq (show c5 :: [] = _ :: [] from e5)
      obtain ⟨q6, e6, _, _⟩ := DataW.trod_int Try.underlying3 f6
      obtain rfl : c6 = .int .i64 q6 := List.head_eq_of_cons_eq (show c6 :: [] = _ :: [] from e6)
      obtain ⟨q7, e7, _, _⟩ := DataW.trod_int Try.underlying3 f7
      obtain rfl : c7 = .int .i64 q7 := List.head_eq_of_cons_eq (show c7 :: [] = _ :: [] from e7)
      obtain ⟨q8, e8, _, _⟩ := DataW.trod_int Try.underlying3 f8
      obtain rfl : c8 = .int .i64 q8 := List.head_eq_of_cons_eq (show c8 :: [] = _ :: [] from e8)
      have o9 : c9.oneCell' = true := slice_one Try.underlying22 f9
      have o10 : c10.oneCell' = true := slice_one Try.underlying23 f10
      obtain ⟨q11, e11, _, _⟩ := DataW.trod_int Try.underlying3 f11
      obtain rfl : c11 = .int .i64 q11 := List.head_eq_of_cons_eq (show c11 :: [] = _ :: [] from e11)
      refine ⟨_, _, _, _, _, _, _, _, _, _, _, _, rfl, fun u hu => ?_⟩
      simp only [List.mem_cons, List.not_mem_nil, or_false] at hu
      rcases hu with rfl | rfl | rfl | rfl | rfl | rfl | rfl | rfl | rfl <;> first | rfl | exact o9 | exact o10

theorem again {W W' : World} {t : TypeId} {v : Value} {d : DataW H} {ps : List MemPlace} (hr : Try.prog.readableRec t = true) (hrow : t < Try.prog.types.size)
    (h : DataW.Trod enc Try.prog W 0 (fun _ => true) true t v d ps) (hb : Below W.heap.size W W') : DataW.Trod enc Try.prog W' 0 (fun b => decide (b < W.heap.size)) true t v d ps := by
  have hl : laidOutB Try.prog = true := by kernel_rfl
  exact Below.trod hl hr hrow h hb (fun x hx => by obtain ⟨n, hn⟩ := h; exact DataW.trod_lt n _ _ _ hn x hx)

theorem config_readable : Try.prog.readableRec 25 = true := by kernel_rfl
theorem config_row : 25 < Try.prog.types.size := by decide +kernel
end
end Go.Proofs.Ytppndkbicekkjaa
