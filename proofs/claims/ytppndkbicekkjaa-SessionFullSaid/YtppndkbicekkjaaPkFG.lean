/- Proved here: the contracts of crierlaw13's within and digits. -/
import Derived.Test.YtppndkbicekkjaaPkFF
import Derived.Laws.IdiomStrings
import Derived.Lib.SlBytesConst
import Derived.Lib.BufferMore
import Derived.Test.YtppndkbicekkjaaRows
import Derived.Deep.Slices
import Derived.Deep.Strs
import Derived.ChangeOld
import Derived.Carry
import Derived.WalkKit
import Derived.ProofKit
import Derived.SizedLaws
namespace Go.Proofs.Ytppndkbicekkjaa
open Go Go.RowKit Go.Proofs.Gs Go.Proofs.Rt Go.Proofs.Sw
open Go.Proofs.Cc (Turn Grow)

theorem within_any (n l m : Int) (w : World) (h0 : 0 ≤ l) (h : l ≤ m) : Calls Try.prog 14 #[.int .i64 n, .int .i64 l, .int .i64 m] w fun e w' => e = .returned (.int .i64 (within n l m : Nat)) ∧ w' = w := by
  obtain ⟨p, hp⟩ : ∃ p : Nat, (p : Int) = min (max n l) m := ⟨(min (max n l) m).toNat, by omega⟩
  have e1 : within n l m = p := by unfold within; omega
  rw [e1]
  have HP := Lib.hid hp
  clear hp e1
  go_enter Try.func14, Try.ntmps14
  go_wp2_with fail
  go_ret
  rw [← HP.out]
  exact ⟨rfl, rfl⟩

def dlCells (l : List UInt8) : List Value := l.map fun b => .int .u8 (b.toNat : Nat)
theorem dl_row {w V : World} {g n k : Nat} {t : TypeId} (hg : w.heap[g]? = some (.cells (dlCells (dl n k)).toArray t (6, 7))) (hk : k < 6) {x : Int} (hx : x = (fig n (5 - k) : Nat)) (hV : w.setCell ⟨g, 5 - k, none⟩ (.int .u8 x) = V) : V.heap[g]? = some (.cells (dlCells (dl n (k + 1))).toArray t (6, 7)) := by
  have h := Lib.heap_setCell_same (i := 5 - k) hg (.int .u8 x)
  rw [hV] at h
  rw [h]
  congr 2
  subst hx
  rw [← dl_set n k hk]
  unfold dlCells
  rw [List.map_set]
  have := fig_range n (5 - k)
  rw [UInt8.toNat_ofNat', Nat.mod_eq_of_lt (by omega)]
  simp

set_option maxHeartbeats 1000000 in
set_option maxRecDepth 100000 in
theorem digits_any (n : Nat) (w : World) (hn : n ≤ 1000000) : Calls Try.prog 16 #[.int .i64 (n : Nat)] w fun e w' => e = .returned (.string (dg n)) ∧ Below w.heap.size w w' := by
  obtain ⟨W0, hW0⟩ : ∃ W0, w.alloc (.cells #[.int .u8 48, .int .u8 48, .int .u8 48, .int .u8 48, .int .u8 48, .int .u8 48] 5 (6, 7)) = W0 := ⟨_, rfl⟩
  have g0 : W0.heap[w.heap.size]? = some (.cells (dlCells (dl n 0)).toArray 5 (6, 7)) := by rw [← hW0, dl_start]; exact (MapKept.heap_alloc w _).1
  have hb0 : Below w.heap.size w W0 := by rw [← hW0]; exact (Below.refl _ _).alloc (Nat.le_refl _) _
  have hcc := Lib.run_convert_bytes_const (P := Try.prog) w 39 5 #[.int .u8 48, .int .u8 48, .int .u8 48, .int .u8 48, .int .u8 48, .int .u8 48] 6 6 Try.underlying39 Try.underlying5
  have HW0 := Lib.hid hW0
  have HG0 := Lib.hid g0
  have HB0 := Lib.hid hb0
  clear hW0 g0 hb0
  go_enter Try.func16, Try.ntmps16
  go_wp2_with fail
  rw [HW0.out]
  go_loopg [0, 4] 6 (fun g s0 s4 wr => ∃ k : Nat, k + g = 6 ∧ s0 = .int .i64 ((n / 10 ^ k : Nat) : Int) ∧ s4 = .int .i64 (5 - (k : Int)) ∧ wr.heap[w.heap.size]? = some (.cells (dlCells (dl n k)).toArray 5 (6, 7)) ∧ Below w.heap.size w wr)
  case atStart => exact ⟨0, rfl, by simp, rfl, HG0.out, HB0.out⟩
  case round =>
    obtain ⟨k, hkg, rfl, rfl, hg, hb⟩ := hrel
    have HB := Lib.hid hb
    have HG := Lib.hid hg
    clear hb
    cases gk with
    | zero =>
      obtain rfl : k = 6 := by omega
      have hd : decide ((0 : Int) ≤ 5 - ((6 : Nat) : Int)) = false := by decide
      have hcv := run_convert_bytes_back (P := Try.prog) wr 39 9 5 ⟨w.heap.size, 0, none⟩ 6 (dl n 6) Try.underlying39 Try.underlying5 Try.underlying9 (fun j hj => by
        rw [Addr.add_lit, Nat.zero_add]
        unfold World.cell?
        simp only [hg]
        unfold dlCells
        simp [hj])
      rw [dl_len, show (⟨(dl n 6).toArray⟩ : ByteArray) = dg n from rfl] at hcv
      clear hg
      go_wp2_with fail
      go_ret
      exact ⟨rfl, HB.out⟩
    | succ gk =>
      have hk : k ≤ 5 := by omega
      have hd : decide ((0 : Int) ≤ 5 - (k : Int)) = true := decide_eq_true (by omega)
      have hq0 : (0 : Int) ≤ 5 - (k : Int) := by omega
      have hq1 : 5 - (k : Int) < 6 := by omega
      have hq2 : (5 - (k : Int)).toNat = 5 - k := by omega
      obtain ⟨b, hb⟩ : ∃ b, (dl n k)[5 - k]? = some b := ⟨_, List.getElem?_eq_getElem (by rw [dl_len]; omega)⟩
      have c0 : wr.cell? ⟨w.heap.size, 5 - k, none⟩ = some (.int .u8 (b.toNat : Nat)) := by
        unfold World.cell?
        simp only [hg]
        unfold dlCells
        simp [hb]
      have f0 : wr.frozen? ⟨w.heap.size, 5 - k, none⟩ = false := by
        unfold World.frozen?
        simp only [hg]
        simp
        omega
      obtain ⟨m, hm⟩ : ∃ m, n / 10 ^ k = m := ⟨_, rfl⟩
      have hmb : m ≤ 1000000 := by rw [← hm]; exact Nat.le_trans (Nat.div_le_self _ _) hn
      have HM := Lib.hid hm
      have HK := Lib.hid (And.intro hk hkg)
      rw [hm]
      have hwk : IntKind.i64.wrap (5 - (k : Int) - 1) = 5 - (k : Int) - 1 := by rw [IntKind.wrap_i64]; omega
      clear hg hb hm hkg
      go_wp2_with fail
      obtain ⟨V, hV⟩ : ∃ V, wr.setCell ⟨w.heap.size, 5 - k, none⟩ (.int .u8 (48 + (m : Int) % 10)) = V := ⟨_, rfl⟩
      rw [hV]
      have hk := HK.out.1
      have hx : (48 + (m : Int) % 10) = ((fig n (5 - k) : Nat) : Int) := by
        unfold fig
        rw [show 5 - (5 - k) = k by omega, HM.out]
        omega
      have hrow := dl_row HG.out (by omega) hx hV
      have hbV : Below w.heap.size w V := by
        have h2 := HB.out.setCell (p := ⟨w.heap.size, 5 - k, none⟩) (Nat.le_refl _) (.int .u8 (48 + (m : Int) % 10))
        rw [hV] at h2
        exact h2
      have HR := Lib.hid hrow
      have HBV := Lib.hid hbV
      clear hV hx hrow hbV c0 f0
      go_roundg gk
      case measure => omega
      case rel => exact ⟨k + 1, by have := HK.out.2; omega, by rw [Nat.pow_succ, ← Nat.div_div_eq_div_mul, HM.out]; rfl, by congr 1; omega, HR.out, HBV.out⟩

/-- A session's image's window, and its queue. -/
theorem field_win (a b c d e f : Value) (W : World) : (Instr.field 52 (.agg #[a, b, c, d, e, f]) 2).run Try.prog W = .ok (.agg #[c, d, e]) W := by kernel_rfl
theorem field_que (c d : Value) (s : Option Addr) (n cap : Nat) (W : World) : (Instr.field 50 (.agg #[c, d, .slice s n cap]) 2).run Try.prog W = .ok (.slice s n cap) W := by kernel_rfl
end Go.Proofs.Ytppndkbicekkjaa

/- Proved here: crierlaw13.SessionFull's walk. -/
namespace Go.Proofs.Ytppndkbicekkjaa
open Go Go.RowKit Go.Proofs.Gs Go.Proofs.Rt Go.Proofs.Sw
open Go.Proofs.Cc (Turn Grow)

theorem below_dr (w : World) (n : Nat) : Below w.heap.size w (w.drewN n) := ⟨rfl, rfl, rfl, Nat.le_refl _, fun _ _ => rfl⟩
def fS (mo win que i j : Nat) : Ses := ⟨⟨#[107]⟩, true, mo, dgs j, [], fullW win que i (nMsg 1)⟩
theorem fS_good (mo win que i j : Nat) (h : mo ≤ 65536) (hj : j ≤ mo) : GoodS (fS mo win que i j) := ⟨dgs_order (by omega), h, by show (dgs j).length ≤ mo; rw [dgs_len]; exact hj, fun a ha => by
  obtain ⟨k, _, rfl⟩ := List.mem_map.1 (show a ∈ dgs j from ha)
  show (dg k).size ≤ 1000000000
  rw [dg_size]
  omega⟩
theorem full_small {win que : Nat} (h2 : win ≤ 65535) (h3 : que ≤ 65536) (i : Nat) (hi : i ≤ que) : Small (fullW win que i (nMsg 1)) := ⟨h2, h3, Nat.zero_le _, Nat.zero_le _, by simpa [fullW] using hi, by simp [fullW], fun m hm => by
  have := List.eq_of_mem_replicate (show m ∈ List.replicate i (nMsg 1) from hm)
  subst this
  exact Nat.zero_le _⟩
theorem full_deliv (mo win que i j : Nat) (h : i < que) : delivW (fS mo win que i j) (nMsg 1) = (fS mo win que (i + 1) j, [], true) := by
  unfold delivW
  rw [if_neg (by show ¬ ((1 : Int) = 0); omega), if_pos (show sendable (nMsg 1) = true from rfl)]
  show ({ fS mo win que i j with win := (sendW (fullW win que i (nMsg 1)) (nMsg 1)).1 }, (sendW (fullW win que i (nMsg 1)) (nMsg 1)).2.1, (sendW (fullW win que i (nMsg 1)) (nMsg 1)).2.2) = _
  rw [full_send win que i (nMsg 1) h]
  rfl
theorem full_deliv_no (mo win que j : Nat) : delivW (fS mo win que que j) (nMsg 1) = (fS mo win que que j, [], false) := by
  unfold delivW
  rw [if_neg (by show ¬ ((1 : Int) = 0); omega), if_pos (show sendable (nMsg 1) = true from rfl)]
  show ({ fS mo win que que j with win := (sendW (fullW win que que (nMsg 1)) (nMsg 1)).1 }, (sendW (fullW win que que (nMsg 1)) (nMsg 1)).2.1, (sendW (fullW win que que (nMsg 1)) (nMsg 1)).2.2) = _
  rw [full_not win que (nMsg 1)]
  rfl
theorem full_sub (mo win que i j : Nat) (h : j < mo) (hm : mo ≤ 65536) : subW (fS mo win que i j) ⟨dg j, 1⟩ = (fS mo win que i (j + 1), 1) := dgs_sub rfl h hm
theorem full_sub_no (mo win que i : Nat) (hm : mo ≤ 65536) : subW (fS mo win que i mo) ⟨dg mo, 1⟩ = (fS mo win que i mo, 128) := dgs_not (S := fS mo win que i mo) rfl hm

set_option maxHeartbeats 8000000 in
set_option maxRecDepth 100000 in
theorem sessionFull_any (w : World) {a b c : Int} {v0 v1 v5 v6 v7 v8 v9 v10 v11 : Value} (h1 : ∀ u ∈ [v0, v1, v5, v6, v7, v8, v9, v10, v11], u.oneCell' = true) :
    Calls Try.prog 4 #[.agg #[v0, v1, .int .i64 a, .int .i64 b, .int .i64 c, v5, v6, v7, v8, v9, v10, v11]] w fun e w' => e = .returned (.bool true) ∧ Below w.heap.size w w' := by
  obtain ⟨W0, hW0⟩ : ∃ W0, w.alloc (.cells #[v0, v1, .int .i64 a, .int .i64 b, .int .i64 c, v5, v6, v7, v8, v9, v10, v11] 25) = W0 := ⟨_, rfl⟩
  have g0 : W0.heap[w.heap.size]? = some (.cells #[v0, v1, .int .i64 a, .int .i64 b, .int .i64 c, v5, v6, v7, v8, v9, v10, v11] 25 (0, 0)) := by rw [← hW0]; exact (MapKept.heap_alloc w _).1
  have hb0 : Below w.heap.size w W0 := by rw [← hW0]; exact (Below.refl _ _).alloc (Nat.le_refl _) _
  have y0 := cell4' g0 0 _ rfl
  have y1 := cell4' g0 1 _ rfl
  have y2 := cell4' g0 2 _ rfl
  have y3 := cell4' g0 3 _ rfl
  have y4 := cell4' g0 4 _ rfl
  have y5 := cell4' g0 5 _ rfl
  have y6 := cell4' g0 6 _ rfl
  have y7 := cell4' g0 7 _ rfl
  have y8 := cell4' g0 8 _ rfl
  have y9 := cell4' g0 9 _ rfl
  have y10 := cell4' g0 10 _ rfl
  have y11 := cell4' g0 11 _ rfl
  have HB0 := Lib.hid hb0
  have HW0 := Lib.hid hW0
  have H1 := Lib.hid h1
  clear g0 hb0 hW0 h1
  go_enter Try.func4, Try.ntmps4
  go_upto_region 1 with fail
  rw [HW0.out]
  go_wp2_with fail
  refine (newS_any (a := a) (b := b) (c := c) H1.out).mono ?_
  rintro e w0 ⟨sb, M0, rfl, hs0, hb1, hm0⟩
  have y3 := cell_below' hb1 y3
  have y4 := cell_below' hb1 y4
  have b1 := within_range c 0 65536 (by omega) (by omega)
  have b2 := within_range a 1 65535 (by omega) (by omega)
  have b3 := within_range b 0 65536 (by omega) (by omega)
  have WC := Lib.hid (fun W => within_any c 0 65536 W (by omega) (by omega))
  have WB := Lib.hid (fun W => within_any b 0 65536 W (by omega) (by omega))
  obtain ⟨mo, hmo⟩ : ∃ mo, within c 0 65536 = mo := ⟨_, rfl⟩
  obtain ⟨win, hwin⟩ : ∃ win, within a 1 65535 = win := ⟨_, rfl⟩
  obtain ⟨que, hque⟩ : ∃ que, within b 0 65536 = que := ⟨_, rfl⟩
  rw [hmo] at hs0 b1 WC
  rw [hwin] at hs0 b2
  rw [hque] at hs0 b3 WB
  have HB := Lib.hid (HB0.out.trans (hb1.mono HB0.out.size))
  have HM0 := Lib.hid (fun x (hx : M0 x) => (by have := hm0 x hx; have := HB0.out.size; omega : w.heap.size ≤ x))
  have HB1 := Lib.hid (show mo ≤ 65536 by omega)
  have HB2 := Lib.hid (show 1 ≤ win ∧ win ≤ 65535 by omega)
  have HB3 := Lib.hid (show que ≤ 65536 by omega)
  have HS0 := Lib.hid (show SesAt M0 (fun _ => False) w0 sb (fS mo win que 0 0) from hs0)
  clear hs0 hb1 hm0 b1 b2 b3 hmo hwin hque y0 y1 y2 y5 y6 y7 y8 y9 y10 y11
  go_wp2_with fail
  refine (known_any w0).mono ?_
  rintro e wk ⟨rfl, hbk⟩
  have y3 := cell_below' hbk y3
  have y4 := cell_below' hbk y4
  have HP1 := Lib.hid ((SesPost.refl HS0.out).more hbk)
  clear hbk
  go_upto_region 4 with fail
  go_quiet ((first | (go_at_call 14; first | exact Calls.quiet_of_same (WB.out _) | exact Calls.quiet_of_same (WC.out _))))
  go_wp2_with fail
  go_loopg [6] (que + 1) (fun g s6 wr => ∃ (i : Nat) (M F : Nat → Prop), i + g = que + 1 ∧ s6 = .int .i64 (i : Nat) ∧ SesPost M0 (fun _ => False) M F w0 wr sb (fS mo win que (min i que) 0))
  case atStart => exact ⟨0, M0, _, by omega, rfl, by rw [Nat.zero_min]; exact HP1.out.more (below_dr _ _)⟩
  case round =>
    obtain ⟨i, M, F, hig, rfl, hp⟩ := hrel
    have HP := Lib.hid hp
    clear hp
    cases gk with
    | zero =>
      obtain rfl : i = que + 1 := by omega
      have hd : decide (((que + 1 : Nat) : Int) ≤ (que : Int)) = false := decide_eq_false (by omega)
      have hd2 : decide (que + 1 ≤ que) = false := decide_eq_false (by omega)
      have hmin : min (que + 1) que = que := by omega
      rw [hmin] at HP
      have HMIN := Lib.hid hmin
      clear hmin hig
      go_wp2_with fail
      go_loopg [9] (mo + 1) (fun g s9 wr => ∃ (j : Nat) (M F : Nat → Prop), j + g = mo + 1 ∧ s9 = .int .i64 (j : Nat) ∧ SesPost M0 (fun _ => False) M F w0 wr sb (fS mo win que que (min j mo)))
      case atStart => exact ⟨0, M, F, by omega, rfl, by rw [Nat.zero_min]; exact HP.out⟩
      case round =>
        clear HP
        obtain ⟨j, M, F, hjg, rfl, hp⟩ := hrel
        have HP := Lib.hid hp
        clear hp
        cases gk with
        | zero =>
          obtain rfl : j = mo + 1 := by omega
          have hd : decide (((mo + 1 : Nat) : Int) ≤ (mo : Int)) = false := decide_eq_false (by omega)
          have hd2 : decide (mo + 1 ≤ mo) = false := decide_eq_false (by omega)
          have hmin : min (mo + 1) mo = mo := by omega
          rw [hmin] at HP
          have HSUB := Lib.hid (subs_any HP.out.at' (fS_good mo win que que mo HB1.out (Nat.le_refl _)))
          clear hmin hjg
          go_wp2_with fail
          refine HSUB.out.mono ?_
          rintro e w5 ⟨v5', rfl, hown5, hb5⟩
          obtain ⟨_, a5, c5, e5, _⟩ := RowAt.of_owns hown5
          rw [show (fS mo win que que mo).subs.length = mo from dgs_len mo] at e5
          subst e5
          have HP5 := Lib.hid (HP.out.more hb5)
          have HIM := Lib.hid (image0_any HP5.out.at' (show Small (fullW win que que (nMsg 1)) from full_small (by have := HB2.out; omega) HB3.out que (Nat.le_refl _)) (fS_good mo win que que mo HB1.out (Nat.le_refl _)) rfl)
          clear hown5 hb5
          go_wp2_with fail
          refine HIM.out.mono ?_
          rintro e w6 ⟨vi, rfl, hi, hbi⟩
          obtain ⟨sv, s1, s2, Z1, Z2, rfl, hsv, hg1, hg2, -, -⟩ := hi
          obtain ⟨a1', c1', e1⟩ := hg1.slice
          obtain ⟨a2', c2', e2⟩ := hg2.slice
          rw [show (fS mo win que que mo).win.wt.length = que from by show (List.replicate que (nMsg 1)).length = que; simp] at e2
          subst e1
          subst e2
          obtain ⟨_, a3', c3', e3, _⟩ := RowAt.of_owns hsv
          subst e3
          have HFIN := Lib.hid ((HP5.out.more hbi).back (w0 := w) HB.out HM0.out)
          clear hsv hg1 hg2 hbi HIM HSUB
          have hfw := fun a b c d e f W => field_win a b c d e f W
          have hfq := fun c d s n cap W => field_que c d s n cap W
          go_wp2_with fail
          go_ret
          exact ⟨rfl, HFIN.out⟩
        | succ gk =>
          have hd : decide ((j : Int) ≤ (mo : Int)) = true := decide_eq_true (by omega)
          have hle : j ≤ mo := by omega
          have hwi : IntKind.i64.wrap ((j : Int) + 1) = (j : Int) + 1 := by rw [IntKind.wrap_i64]; have := HB1.out; omega
          have hmin : min j mo = j := by omega
          rw [hmin] at HP
          have HJG := Lib.hid hjg
          have HDIG := Lib.hid (fun W => digits_any j W (by have := HB1.out; omega))
          have hc := fun (X : World) (hb : Below wr.heap.size wr X) => sub_any (HP.out.more hb).at' (fS_good mo win que que j HB1.out hle) ⟨dg j, 1⟩ (by show (dg j).size ≤ 1000000000; rw [dg_size]; omega)
          by_cases hlt : j < mo
          · have hne : ((j : Int) == (mo : Int)) = false := by rw [beq_eq_false_iff_ne]; omega
            have hne2 : (j == mo) = false := by rw [beq_eq_false_iff_ne]; omega
            simp only [full_sub mo win que que j hlt HB1.out] at hc
            have HC := Lib.hid hc
            have HLT := Lib.hid hlt
            clear hc hmin hjg
            go_wp2_with fail
            refine (HDIG.out _).mono ?_
            rintro e w5 ⟨rfl, hb5⟩
            have HB5 := Lib.hid hb5
            clear hb5
            go_wp2_with fail
            refine (HC.out _ HB5.out).mono ?_
            rintro e w6 ⟨M6, rfl, hp6⟩
            have HP6 := Lib.hid ((HP.out.more HB5.out).trans hp6)
            clear HC hp6
            go_wp2_with fail
            go_roundg gk
            case measure => omega
            case rel => exact ⟨j + 1, M6, F, by have := HJG.out; omega, by go_num, by rw [show min (j + 1) mo = j + 1 from by have := HLT.out; omega]; exact HP6.out⟩
          · obtain rfl : j = mo := by omega
            have hne : ((j : Int) == (j : Int)) = true := by rw [beq_iff_eq]
            simp only [full_sub_no j win que que HB1.out] at hc
            have HC := Lib.hid hc
            clear hc hmin hjg
            go_wp2_with fail
            refine (HDIG.out _).mono ?_
            rintro e w5 ⟨rfl, hb5⟩
            have HB5 := Lib.hid hb5
            clear hb5
            go_wp2_with fail
            refine (HC.out _ HB5.out).mono ?_
            rintro e w6 ⟨M6, rfl, hp6⟩
            have HP6 := Lib.hid ((HP.out.more HB5.out).trans hp6)
            clear HC hp6
            go_wp2_with fail
            go_roundg gk
            case measure => omega
            case rel => exact ⟨j + 1, M6, F, by have := HJG.out; omega, by go_num, by rw [show min (j + 1) j = j from by omega]; exact HP6.out⟩
    | succ gk =>
      have hd : decide ((i : Int) ≤ (que : Int)) = true := decide_eq_true (by omega)
      have hle : i ≤ que := by omega
      have hwi : IntKind.i64.wrap ((i : Int) + 1) = (i : Int) + 1 := by rw [IntKind.wrap_i64]; have := HB3.out; omega
      have hmin : min i que = i := by omega
      rw [hmin] at HP
      have HIG := Lib.hid hig
      have hc := deliver_any (S := fS mo win que i 0) (m := nMsg 1) HP.out.at' (full_small (by have := HB2.out; omega) HB3.out i hle) (nMsg_val (fun _ => False) _ 1) (fun b hb => hb.elim) (by simp [nMsg]) (.inr rfl)
      by_cases hlt : i < que
      · rw [full_deliv mo win que i 0 hlt] at hc
        have hd2 : decide ((i : Int) < (que : Int)) = true := decide_eq_true (by omega)
        have hlt2 : (i : Int) < (que : Int) := by omega
        have HC := Lib.hid hc
        have HLT := Lib.hid hlt
        clear hc hmin hig
        go_wp2_with fail
        refine HC.out.mono ?_
        rintro e w5 ⟨v5', M5, F5, rfl, hk5, hp5⟩
        have HP5 := Lib.hid (HP.out.trans hp5)
        obtain ⟨a5, c5, e5⟩ := hk5.slice
        subst e5
        clear HC hk5 hp5
        go_wp2_with fail
        go_roundg gk
        case measure => omega
        case rel => exact ⟨i + 1, M5, F5, by have := HIG.out; omega, by go_num, by rw [show min (i + 1) que = i + 1 from by have := HLT.out; omega]; exact HP5.out⟩
      · obtain rfl : i = que := by omega
        rw [full_deliv_no mo win i 0] at hc
        have hd2 : decide ((i : Int) < (i : Int)) = false := decide_eq_false (by omega)
        have HC := Lib.hid hc
        clear hc hmin hig
        go_wp2_with fail
        refine HC.out.mono ?_
        rintro e w5 ⟨v5', M5, F5, rfl, hk5, hp5⟩
        have HP5 := Lib.hid (HP.out.trans hp5)
        obtain ⟨a5, c5, e5⟩ := hk5.slice
        subst e5
        clear HC hk5 hp5
        go_wp2_with fail
        go_roundg gk
        case measure => omega
        case rel => exact ⟨i + 1, M5, F5, by have := HIG.out; omega, by go_num, by rw [show min (i + 1) i = i from by omega]; exact HP5.out⟩
end Go.Proofs.Ytppndkbicekkjaa

/- Proved here: a setup that came in, opened: its twelve cells. Arguments read again as they did. -/
namespace Go.Proofs.Ytppndkbicekkjaa
open Go Go.RowKit Go.WideShapes Go.ChangeShapes Go.Deep

section
variable {H : Type} {enc : TypeId × Value → H}

set_option maxRecDepth 100000 in
theorem cells_agg {v : Value} (h : v.cells.size = 12) : ∃ cs, v = .agg cs ∧ v.cells = cs := by
  by_cases hv : ∃ cs, v = .agg cs
  · obtain ⟨cs, rfl⟩ := hv
    exact ⟨cs, rfl, rfl⟩
  · exfalso
    have e : v.cells = #[v] := by
      unfold Value.cells
      split
      · exact absurd ⟨_, rfl⟩ hv
      · rfl
    rw [e] at h
    simp at h
set_option maxRecDepth 100000 in
theorem slice_one {W : World} {n : Nat} {t e : TypeId} {c : Value} {x : DataW H × List MemPlace} (ht : Try.prog.underlying t = some (.slice e)) (h : DataW.trod enc Try.prog W 0 (fun _ => true) true n t [c] = some x) : c.oneCell' = true := by
  rcases open_slice ht h with ⟨hcs, _⟩ | ⟨a, len, cap, m, n', D, Pl, hcs, _⟩ <;> (injection hcs with hcs; subst hcs; rfl)

set_option maxRecDepth 100000 in
/-- A setup that came in. -/
theorem open_config {W : World} {v : Value} {d : DataW H} {ps : List MemPlace} (h : DataW.Trod enc Try.prog W 0 (fun _ => true) true 25 v d ps) :
    ∃ (v0 v1 v5 v6 v7 v8 v9 v10 v11 : Value) (a b c : Int), v = .agg #[v0, v1, .int .i64 a, .int .i64 b, .int .i64 c, v5, v6, v7, v8, v9, v10, v11] ∧ ∀ u ∈ [v0, v1, v5, v6, v7, v8, v9, v10, v11], u.oneCell' = true := by
  obtain ⟨n, h⟩ := h
  obtain ⟨xs, m, _, hx, hl, hxl, hf⟩ := DataW.trod_struct Try.underlying25 h
  have hc12 : Try.prog.cellsOf 25 = 12 := by kernel_rfl
  rw [hc12] at hl
  obtain ⟨cs, rfl, hcs⟩ := cells_agg (v := v) (by simpa using hl)
  rw [hcs] at hl hf
  obtain ⟨l⟩ := cs
  match l, hl with
  | [c0, c1, c2, c3, c4, c5, c6, c7, c8, c9, c10, c11], _ =>
    have k3 : Try.prog.cellsOf 3 = 1 := by kernel_rfl
    have k4 : Try.prog.cellsOf 4 = 1 := by kernel_rfl
    have k22 : Try.prog.cellsOf 22 = 1 := by kernel_rfl
    have k23 : Try.prog.cellsOf 23 = 1 := by kernel_rfl
    have f0 := hf 0 { name := "List", type := 4, offset := 0, embedded := false, tag := "", pkgPath := "", byteOffset := 0 } rfl
    have f1 := hf 1 { name := "Cache", type := 3, offset := 1, embedded := false, tag := "", pkgPath := "", byteOffset := 8 } rfl
    have f2 := hf 2 { name := "Window", type := 3, offset := 2, embedded := false, tag := "", pkgPath := "", byteOffset := 16 } rfl
    have f3 := hf 3 { name := "Queue", type := 3, offset := 3, embedded := false, tag := "", pkgPath := "", byteOffset := 24 } rfl
    have f4 := hf 4 { name := "Subs", type := 3, offset := 4, embedded := false, tag := "", pkgPath := "", byteOffset := 32 } rfl
    have f5 := hf 5 { name := "Retained", type := 3, offset := 5, embedded := false, tag := "", pkgPath := "", byteOffset := 40 } rfl
    have f6 := hf 6 { name := "Sessions", type := 3, offset := 6, embedded := false, tag := "", pkgPath := "", byteOffset := 48 } rfl
    have f7 := hf 7 { name := "Most", type := 3, offset := 7, embedded := false, tag := "", pkgPath := "", byteOffset := 56 } rfl
    have f8 := hf 8 { name := "Patience", type := 3, offset := 8, embedded := false, tag := "", pkgPath := "", byteOffset := 64 } rfl
    have f9 := hf 9 { name := "Users", type := 22, offset := 9, embedded := false, tag := "", pkgPath := "", byteOffset := 72 } rfl
    have f10 := hf 10 { name := "Rules", type := 23, offset := 10, embedded := false, tag := "", pkgPath := "", byteOffset := 96 } rfl
    have f11 := hf 11 { name := "Room", type := 3, offset := 11, embedded := false, tag := "", pkgPath := "", byteOffset := 120 } rfl
    simp only [k3, k4, k22, k23] at f0 f1 f2 f3 f4 f5 f6 f7 f8 f9 f10 f11
    simp at hxl
    match xs, hxl with
    | [x0, x1, x2, x3, x4, x5, x6, x7, x8, x9, x10, x11], _ =>
      obtain ⟨q0, e0, _⟩ := DataW.trod_bool Try.underlying4 f0
      obtain rfl : c0 = .bool q0 := List.head_eq_of_cons_eq (show c0 :: [] = _ :: [] from e0)
      obtain ⟨q1, e1, _, _⟩ := DataW.trod_int Try.underlying3 f1
      obtain rfl : c1 = .int .i64 q1 := List.head_eq_of_cons_eq (show c1 :: [] = _ :: [] from e1)
      obtain ⟨q2, e2, _, _⟩ := DataW.trod_int Try.underlying3 f2
      obtain rfl : c2 = .int .i64 q2 := List.head_eq_of_cons_eq (show c2 :: [] = _ :: [] from e2)
      obtain ⟨q3, e3, _, _⟩ := DataW.trod_int Try.underlying3 f3
      obtain rfl : c3 = .int .i64 q3 := List.head_eq_of_cons_eq (show c3 :: [] = _ :: [] from e3)
      obtain ⟨q4, e4, _, _⟩ := DataW.trod_int Try.underlying3 f4
      obtain rfl : c4 = .int .i64 q4 := List.head_eq_of_cons_eq (show c4 :: [] = _ :: [] from e4)
      obtain ⟨q5, e5, _, _⟩ := DataW.trod_int Try.underlying3 f5
      obtain rfl : c5 = .int .i64 q5 := List.head_eq_of_cons_eq (show c5 :: [] = _ :: [] from e5)
      obtain ⟨q6, e6, _, _⟩ := DataW.trod_int Try.underlying3 f6
      obtain rfl : c6 = .int .i64 q6 := List.head_eq_of_cons_eq (show c6 :: [] = _ :: [] from e6)
      obtain ⟨q7, e7, _, _⟩ := DataW.trod_int Try.underlying3 f7
      obtain rfl : c7 = .int .i64 q7 := List.head_eq_of_cons_eq (show c7 :: [] = _ :: [] from e7)
      obtain ⟨q8, e8, _, _⟩ := DataW.trod_int Try.underlying3 f8
      obtain rfl : c8 = .int .i64 q8 := List.head_eq_of_cons_eq (show c8 :: [] = _ :: [] from e8)
      have o9 : c9.oneCell' = true := slice_one Try.underlying22 f9
      have o10 : c10.oneCell' = true := slice_one Try.underlying23 f10
      obtain ⟨q11, e11, _, _⟩ := DataW.trod_int Try.underlying3 f11
      obtain rfl : c11 = .int .i64 q11 := List.head_eq_of_cons_eq (show c11 :: [] = _ :: [] from e11)
      refine ⟨_, _, _, _, _, _, _, _, _, _, _, _, rfl, fun u hu => ?_⟩
      simp only [List.mem_cons, List.not_mem_nil, or_false] at hu
      rcases hu with rfl | rfl | rfl | rfl | rfl | rfl | rfl | rfl | rfl <;> first | rfl | exact o9 | exact o10

theorem again {W W' : World} {t : TypeId} {v : Value} {d : DataW H} {ps : List MemPlace} (hr : Try.prog.readableRec t = true) (hrow : t < Try.prog.types.size)
    (h : DataW.Trod enc Try.prog W 0 (fun _ => true) true t v d ps) (hb : Below W.heap.size W W') : DataW.Trod enc Try.prog W' 0 (fun b => decide (b < W.heap.size)) true t v d ps := by
  have hl : laidOutB Try.prog = true := by kernel_rfl
  exact Below.trod hl hr hrow h hb (fun x hx => by obtain ⟨n, hn⟩ := h; exact DataW.trod_lt n _ _ _ hn x hx)

theorem config_readable : Try.prog.readableRec 25 = true := by kernel_rfl
theorem config_row : 25 < Try.prog.types.size := by decide +kernel
end
end Go.Proofs.Ytppndkbicekkjaa
