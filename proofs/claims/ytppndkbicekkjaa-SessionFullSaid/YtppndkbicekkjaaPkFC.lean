/- Proved here: the contract of window's launch. -/
import Derived.Test.YtppndkbicekkjaaPkFB
import Derived.Great.BuildSlice
import Derived.Test.YtppndkbicekkjaaPkFA
import Derived.Lib.Strings
import Derived.Lib.Join
import Derived.Lib.IndexAny
import Derived.Sort.Walk0
import Derived.Test.YtppndkbicekkjaaChecked
import Derived.Test.YtppndkbicekkjaaShelf
import Derived.WalkKit
import Derived.WalkSmall
import Derived.WalkSpells
import Derived.Laws.RangeAny
import Derived.Lib.Hide
import Derived.Maps.AppendAt
import Derived.BigQuiet
import Derived.Deep.QuietTactic
import Derived.Deep.LoopGhost
import Derived.WalkLawsBesides
namespace Go.Proofs.Ytppndkbicekkjaa
open Go Go.RowKit Go.Proofs.Gs Go.Proofs.Rt Go.Proofs.Sw Go.Proofs.Rg
open Go.Proofs.Cc (Turn Grow)

theorem set6 {w V : World} {g : Nat} {z0 z1 z2 z3 z4 z5 a0 a1 a2 a3 a4 a5 : Value} {t : TypeId} (hg : w.heap[g]? = some (.cells #[z0, z1, z2, z3, z4, z5] t (0, 0))) (h : (((((w.setCell ⟨g, 0, none⟩ a0).setCell ⟨g, 1, none⟩ a1).setCell ⟨g, 2, none⟩ a2).setCell ⟨g, 3, none⟩ a3).setCell ⟨g, 4, none⟩ a4).setCell ⟨g, 5, none⟩ a5 = V) :
    V.heap[g]? = some (.cells #[a0, a1, a2, a3, a4, a5] t (0, 0)) ∧ (∀ B, B ≤ g → Below B w V) ∧ V.heap.size = w.heap.size ∧ ∀ k, k ≠ g → V.heap[k]? = w.heap[k]? := by
  subst h
  have e1 := heap_setCell_same w g 0 _ t a0 hg
  have e2 := heap_setCell_same _ g 1 _ t a1 e1
  have e3 := heap_setCell_same _ g 2 _ t a2 e2
  have e4 := heap_setCell_same _ g 3 _ t a3 e3
  have e5 := heap_setCell_same _ g 4 _ t a4 e4
  have e6 := heap_setCell_same _ g 5 _ t a5 e5
  refine ⟨e6, fun B hB => ((((((Below.refl B w).setCell (p := ⟨g, 0, none⟩) hB _).setCell (p := ⟨g, 1, none⟩) hB _).setCell (p := ⟨g, 2, none⟩) hB _).setCell (p := ⟨g, 3, none⟩) hB _).setCell (p := ⟨g, 4, none⟩) hB _).setCell (p := ⟨g, 5, none⟩) hB _, by simp [World.setCell], fun k hk => ?_⟩
  rw [heap_setCell_other _ _ _ _ hk, heap_setCell_other _ _ _ _ hk, heap_setCell_other _ _ _ _ hk, heap_setCell_other _ _ _ _ hk, heap_setCell_other _ _ _ _ hk, heap_setCell_other _ _ _ _ hk]

theorem row_one {w : World} {E : TypeId} {k : Nat} {cs : List Value} (hk : cs.length = k) : RowAt (w.alloc (.cells cs.toArray E)) k (.slice (some ⟨w.heap.size, 0, none⟩) 1 1) 1 cs := by
  refine ⟨by omega, _, 1, rfl, Nat.le_refl _, by unfold maxLen; omega, .inr ⟨w.heap.size, 0, rfl, by simp, fun j u hu => ?_⟩⟩
  have hh := (MapKept.heap_alloc w (.cells cs.toArray E)).1
  unfold World.cell?
  simp only
  rw [hh, Nat.zero_add]
  simpa using hu
/-- Behind launch's first step. -/
def Mid (M F : Nat → Prop) (W0 : World) (wb rb : Nat) (W : Win) (fv wv : Value) (m : MsgV) (s : Value) (V : World) : Prop :=
  ∃ fb pv2, s = .pointer (some ⟨fb, 0, none⟩) ∧ V.heap[fb]? = some (.cells (flCells ⟨launchN W, m, false⟩ pv2).toArray 86 (0, 0)) ∧ W0.heap.size ≤ fb ∧ RowF (fun b => W0.heap.size ≤ b ∧ b < V.heap.size ∧ b ≠ fb) V 1 pv2 m.pay.length (payCells m.pay) ∧ WinAt M F V wb { W with last := launchN W } fv wv rb ∧ Turn M W0 V
theorem mid_end {M F G : Nat → Prop} {W0 w1 X V : World} {wb rb fb : Nat} {W : Win} {fv wv pv2 : Value} {m : MsgV} (ha : WinAt M F w1 wb { W with last := launchN W } fv wv rb) (ht : Turn M W0 w1) (hM : ∀ x, M x → x < W0.heap.size) (hF : ∀ x, F x → x < W0.heap.size) (hb : Below w1.heap.size w1 X) (hs : X.heap.size ≤ V.heap.size) (ho : V.os = X.os ∧ V.tape = X.tape ∧ V.output = X.output)
    (hq : V.heap[fb]? = some (.cells (flCells ⟨launchN W, m, false⟩ pv2).toArray 86 (0, 0))) (hfb : W0.heap.size ≤ fb) (hoth : ∀ k, k < X.heap.size → k ≠ fb → V.heap[k]? = X.heap[k]?) (hp : RowF G X 1 pv2 m.pay.length (payCells m.pay)) (hG : ∀ b, G b → W0.heap.size ≤ b ∧ b < X.heap.size ∧ b ≠ fb) :
    Mid M F W0 wb rb W fv wv m (.pointer (some ⟨fb, 0, none⟩)) V := by
  have hs1 := ht.size
  have hs2 := hb.size
  have hsame : ∀ b, b < w1.heap.size → (F b ∨ M b) → V.heap[b]? = w1.heap[b]? := fun b hlt hx => by
    have hne : b ≠ fb := by rcases hx with hx | hx; have := hF b hx; omega; have := hM b hx; omega
    exact (hoth b (by omega) hne).trans (hb.block b hlt)
  refine ⟨fb, pv2, rfl, hq, hfb, (hp.keep (fun k hk hx => hoth k hk (hG k hx).2.2)).mono (fun k hx => ⟨(hG k hx).1, by have := (hG k hx).2.1; omega, (hG k hx).2.2⟩), ha.keep hsame (by omega), ?_⟩
  exact ⟨ho.1.trans (hb.os.trans ht.os), ho.2.1.trans (hb.tape.trans ht.tape), ho.2.2.trans (hb.output.trans ht.output), by omega, fun k hk hm => (hoth k (by omega) (by omega)).trans ((hb.block k (by omega)).trans (ht.block k hk hm))⟩
theorem mid_set {M F G : Nat → Prop} {W0 w1 X V : World} {wb rb fb pn : Nat} {W : Win} {fv wv pv2 : Value} {m : MsgV} {z0 z1 z2 z3 z4 z5 : Value} (ha : WinAt M F w1 wb { W with last := launchN W } fv wv rb) (ht : Turn M W0 w1) (hM : ∀ x, M x → x < W0.heap.size) (hF : ∀ x, F x → x < W0.heap.size) (hb : Below w1.heap.size w1 X) (hpn : m.pay.length = pn)
    (hq : X.heap[fb]? = some (.cells #[z0, z1, z2, z3, z4, z5] 86 (0, 0))) (hfb : W0.heap.size ≤ fb) (hp : RowF G X 1 pv2 pn (payCells m.pay)) (hG : ∀ b, G b → W0.heap.size ≤ b ∧ b < X.heap.size ∧ b ≠ fb)
    (hV : (((((X.setCell ⟨fb, 0, none⟩ (.int .i64 (launchN W : Nat))).setCell ⟨fb, 1, none⟩ (.string m.topic)).setCell ⟨fb, 2, none⟩ pv2).setCell ⟨fb, 3, none⟩ (.int .i64 m.qos)).setCell ⟨fb, 4, none⟩ (.bool m.ret)).setCell ⟨fb, 5, none⟩ (.bool false) = V) : Mid M F W0 wb rb W fv wv m (.pointer (some ⟨fb, 0, none⟩)) V := by
  subst hpn
  obtain ⟨h1, h2, h3, h4⟩ := set6 hq hV
  exact mid_end ha ht hM hF hb (by omega) ⟨(h2 fb (Nat.le_refl _)).os, (h2 fb (Nat.le_refl _)).tape, (h2 fb (Nat.le_refl _)).output⟩ h1 hfb (fun k _ hk => h4 k hk) hp hG
theorem mid_new {M F G : Nat → Prop} {W0 w1 X V : World} {wb rb pn : Nat} {W : Win} {fv wv pv2 : Value} {m : MsgV} (ha : WinAt M F w1 wb { W with last := launchN W } fv wv rb) (ht : Turn M W0 w1) (hM : ∀ x, M x → x < W0.heap.size) (hF : ∀ x, F x → x < W0.heap.size) (hb : Below w1.heap.size w1 X) (hpn : m.pay.length = pn)
    (hp : RowF G X 1 pv2 pn (payCells m.pay)) (hG : ∀ b, G b → W0.heap.size ≤ b ∧ b < X.heap.size)
    (hV : X.alloc (.cells #[.int .i64 (launchN W : Nat), .string m.topic, pv2, .int .i64 m.qos, .bool m.ret, .bool false] 86) = V) : Mid M F W0 wb rb W fv wv m (.pointer (some ⟨X.heap.size, 0, none⟩)) V := by
  subst hpn
  have hs1 := ht.size
  have hs2 := hb.size
  refine mid_end ha ht hM hF hb (by rw [← hV]; simp) ⟨by rw [← hV]; rfl, by rw [← hV]; rfl, by rw [← hV]; rfl⟩ (by rw [← hV]; exact (MapKept.heap_alloc X _).1) (by omega) (fun k hk _ => by rw [← hV]; exact Below.heap_alloc X _ k hk) hp (fun b hb => ⟨(hG b hb).1, (hG b hb).2, by have := (hG b hb).2; omega⟩)

set_option maxHeartbeats 2000000 in
set_option maxRecDepth 100000 in
theorem launch_any {M F G : Nat → Prop} {w : World} {wb rb : Nat} {W : Win} {fv wv v : Value} {m : MsgV} (h : WinAt M F w wb W fv wv rb) (hv : MsgVal G w v m) (hG : ∀ b, G b → b < w.heap.size ∧ ¬ M b) (hlen : W.fl.length ≤ 65535) (hlast : W.last ≤ 65535) (hn : m.pay.length ≤ 1000000000) :
    Calls Try.prog 66 #[.pointer (some ⟨wb, 0, none⟩), v] w fun e w' => ∃ pv M' F', e = .returned (.agg (pkCells (launchP W m) pv).toArray) ∧ RowF (fun x => w.heap.size ≤ x ∧ x < w'.heap.size ∧ ¬ M' x) w' 1 pv m.pay.length (payCells m.pay) ∧ WinPost M F M' F' w w' wb rb (launchW W m) := by
  obtain ⟨pv, rfl, hp⟩ := hv
  obtain ⟨pa, pc, rfl⟩ := pay_slice hp
  obtain ⟨pn, hpn⟩ : ∃ pn, m.pay.length = pn := ⟨_, rfl⟩
  obtain ⟨W0, hW0⟩ : ∃ W0, (w.alloc (.cells #[.string m.topic, .slice pa pn pc, .int .i64 m.qos, .bool m.ret] 41)).alloc (.cells noPk 45) = W0 := ⟨_, rfl⟩
  have g0 : W0.heap[w.heap.size]? = some (.cells #[.string m.topic, .slice pa pn pc, .int .i64 m.qos, .bool m.ret] 41 (0, 0)) := by
    rw [← hW0]; exact (Below.heap_alloc _ _ w.heap.size (by simp)).trans (MapKept.heap_alloc w _).1
  have g1 : W0.heap[w.heap.size + 1]? = some (.cells noPk 45 (0, 0)) := by
    rw [← hW0]
    have := (MapKept.heap_alloc (w.alloc (.cells #[.string m.topic, .slice pa pn pc, .int .i64 m.qos, .bool m.ret] 41)) (.cells noPk 45)).1
    rw [World.size_alloc] at this
    exact this
  have HG1 := Lib.hid g1
  clear g1
  have hb0 : Below w.heap.size w W0 := by rw [← hW0]; exact ((Below.refl _ _).alloc (Nat.le_refl _) _).alloc (by simp) _
  have hs0 : W0.heap.size = w.heap.size + 2 := by rw [← hW0]; simp
  have hmm : ¬ M w.heap.size := fun hx => by have := h.lim _ hx; omega
  have hmf : ¬ M W0.heap.size := fun hx => by have := h.lim _ hx; omega
  have HN := Lib.hid (fun (X : World) (hb : Below W0.heap.size W0 X) => number_any ((h.below hb0).below hb) (by omega) hlast)
  have HOWN := Lib.hid (fun (X : World) (ht : Turn M W0 X) => own_any (F := G) (w := X) (v := .agg #[.string m.topic, .slice pa pn pc, .int .i64 m.qos, .bool m.ret]) (m := m) ⟨_, rfl, by
    have h1 := (hp.keep (Same.below hb0)).keep (w' := X) (fun k hk hx => ht.block k hk (hG k hx).2)
    rw [hpn] at h1 ⊢
    exact h1⟩ hn)
  have HW0 := Lib.hid (show (w.alloc (.cells #[.string m.topic, .slice pa pn pc, .int .i64 m.qos, .bool m.ret] 41)).alloc (.cells #[.int .i64 0, .int .i64 0, .bool false, .int .i64 0, .string ⟨#[]⟩, .bool false, .string ⟨#[]⟩, .slice none 0 0, .int .i64 0, .bool false, .bool false, .string ⟨#[]⟩, .bool false, .slice none 0 0, .bool false, .int .i64 0, .bool false, .string ⟨#[]⟩, .slice none 0 0, .int .i64 0, .bool false, .int .i64 0, .slice none 0 0, .slice none 0 0, .slice none 0 0] 45) = W0 from hW0)
  have y0 := cell4' g0 0 _ rfl
  have y1 := cell4' g0 1 _ rfl
  have y2 := cell4' g0 2 _ rfl
  have y3 := cell4' g0 3 _ rfl
  have yy0 := cell_below' (((Below.refl _ W0).drew).alloc (Nat.le_refl _) (.cells #[.int .i64 0, .string ⟨#[]⟩, .slice none 0 0, .int .i64 0, .bool false, .bool false] 86)) y0
  have yz0 := cell_below' ((Below.refl _ W0).alloc (Nat.le_refl _) (.cells #[.int .i64 0, .string ⟨#[]⟩, .slice none 0 0, .int .i64 0, .bool false, .bool false] 86)) y0
  have yy1 := cell_below' (((Below.refl _ W0).drew).alloc (Nat.le_refl _) (.cells #[.int .i64 0, .string ⟨#[]⟩, .slice none 0 0, .int .i64 0, .bool false, .bool false] 86)) y1
  have yz1 := cell_below' ((Below.refl _ W0).alloc (Nat.le_refl _) (.cells #[.int .i64 0, .string ⟨#[]⟩, .slice none 0 0, .int .i64 0, .bool false, .bool false] 86)) y1
  have yy2 := cell_below' (((Below.refl _ W0).drew).alloc (Nat.le_refl _) (.cells #[.int .i64 0, .string ⟨#[]⟩, .slice none 0 0, .int .i64 0, .bool false, .bool false] 86)) y2
  have yz2 := cell_below' ((Below.refl _ W0).alloc (Nat.le_refl _) (.cells #[.int .i64 0, .string ⟨#[]⟩, .slice none 0 0, .int .i64 0, .bool false, .bool false] 86)) y2
  have yy3 := cell_below' (((Below.refl _ W0).drew).alloc (Nat.le_refl _) (.cells #[.int .i64 0, .string ⟨#[]⟩, .slice none 0 0, .int .i64 0, .bool false, .bool false] 86)) y3
  have yz3 := cell_below' ((Below.refl _ W0).alloc (Nat.le_refl _) (.cells #[.int .i64 0, .string ⟨#[]⟩, .slice none 0 0, .int .i64 0, .bool false, .bool false] 86)) y3
  rw [hpn]
  have HS0 := Lib.hid hs0
  have HLIM := Lib.hid h.lim
  have HHF := Lib.hid h.hF
  clear hW0 hs0
  go_enter Try.func66, Try.ntmps66
  go_upto_region 1 with fail
  rw [HW0.out]
  go_cut [5] (fun s5 wx => Mid M F W0 wb rb W fv wv m s5 wx)
  case first =>
    go_region_law (first
      | (go_simp; go_at_call 85; refine (HN.out _ (by first | exact (Below.refl _ W0).drew | exact ((Below.refl _ W0).drew).alloc (Nat.le_refl _) _ | exact ((Below.refl _ W0).alloc (Nat.le_refl _) _).drew)).mono ?_; rintro e w1 ⟨rfl, ha1, ht1⟩; have ht1' : Turn M W0 w1 := (by first | exact (Turn.of_below (S := M) ((Below.refl _ W0).drew)).trans' ht1 (fun x hx => .inl hx) | exact (Turn.of_below (S := M) (((Below.refl _ W0).drew).alloc (Nat.le_refl _) _)).trans' ht1 (fun x hx => .inl hx)); have u0 := turn_cell ht1' hmm y0; have u1 := turn_cell ht1' hmm y1; have u2 := turn_cell ht1' hmm y2; have u3 := turn_cell ht1' hmm y3; have uu0 := cell_below' ((Below.refl _ w1).alloc (Nat.le_refl _) (.cells #[.int .i64 0, .string ⟨#[]⟩, .slice none 0 0, .int .i64 0, .bool false, .bool false] 86)) u0; have uu1 := cell_below' ((Below.refl _ w1).alloc (Nat.le_refl _) (.cells #[.int .i64 0, .string ⟨#[]⟩, .slice none 0 0, .int .i64 0, .bool false, .bool false] 86)) u1; have uu2 := cell_below' ((Below.refl _ w1).alloc (Nat.le_refl _) (.cells #[.int .i64 0, .string ⟨#[]⟩, .slice none 0 0, .int .i64 0, .bool false, .bool false] 86)) u2; have uu3 := cell_below' ((Below.refl _ w1).alloc (Nat.le_refl _) (.cells #[.int .i64 0, .string ⟨#[]⟩, .slice none 0 0, .int .i64 0, .bool false, .bool false] 86)) u3; (try (have nq := (ht1.block W0.heap.size (by simp) hmf).trans (MapKept.heap_alloc W0.drew (.cells #[.int .i64 0, .string ⟨#[]⟩, .slice none 0 0, .int .i64 0, .bool false, .bool false] 86)).1)); have HT1 := Lib.hid ht1'; have HA1 := Lib.hid ha1; clear ha1 ht1 ht1')
      | (go_simp; go_at_call 65; refine (HOWN.out _ (by first | exact HT1.out | exact HT1.out.alloc _)).mono ?_; rintro e w2 ⟨v2, rfl, hv2, hb2⟩; obtain ⟨pv2, rfl, hp2⟩ := hv2; obtain ⟨pa2, pc2, rfl⟩ := pay_slice hp2; (try (have q := (hb2.block w1.heap.size (by simp)).trans (MapKept.heap_alloc w1 (.cells #[.int .i64 0, .string ⟨#[]⟩, .slice none 0 0, .int .i64 0, .bool false, .bool false] 86)).1; have q0 := cell4' q 0 _ rfl; have q1 := cell4' q 1 _ rfl; have q2 := cell4' q 2 _ rfl; have q3 := cell4' q 3 _ rfl; have q4 := cell4' q 4 _ rfl; have q5 := cell4' q 5 _ rfl; have qf := fun j => frozen_of_row w2 _ j _ _ q)); (try (have q := (hb2.block W0.heap.size (Array.getElem?_eq_some_iff.1 nq).1).trans nq; have q0 := cell4' q 0 _ rfl; have q1 := cell4' q 1 _ rfl; have q2 := cell4' q 2 _ rfl; have q3 := cell4' q 3 _ rfl; have q4 := cell4' q 4 _ rfl; have q5 := cell4' q 5 _ rfl; have qf := fun j => frozen_of_row w2 _ j _ _ q)); have HP2 := Lib.hid hp2; have HB2 := Lib.hid hb2; clear hp2 hb2))
    all_goals
      have hz1 := HT1.out.size
      have hz2 := HB2.out.size
      have hM0 : ∀ x, M x → x < W0.heap.size := fun x hx => by have := HLIM.out x hx; have := HS0.out; omega
      have hF0 : ∀ x, F x → x < W0.heap.size := fun x hx => by have := (HHF.out x hx).1; have := HS0.out; omega
      go_wp2_with fail
      go_meet
    all_goals
      have hp3 := HP2.out
      rw [hpn] at hp3
      first
      | exact mid_new HA1.out HT1.out hM0 hF0 HB2.out hpn hp3 (fun b hb => ⟨by have := hb.1; omega, hb.2⟩) rfl
      | exact mid_set HA1.out HT1.out hM0 hF0 HB2.out hpn q (by omega) hp3 (fun b hb => ⟨by have := hb.1; omega, hb.2, by have := hb.1; have := (Array.getElem?_eq_some_iff.1 nq).1; omega⟩) rfl
      | exact mid_set HA1.out HT1.out hM0 hF0 (((Below.refl _ w1).alloc (Nat.le_refl _) _).trans (HB2.out.mono (by simp))) hpn q (by omega) hp3 (fun b hb => ⟨by have := hb.1; simp only [World.size_alloc] at this; omega, hb.2, by have := hb.1; simp only [World.size_alloc] at this; omega⟩) rfl
  case rest =>
    obtain ⟨fb, pv2, rfl, hg, hfb, hp2, ha, ht⟩ := hcut
    obtain ⟨pa2, pc2, rfl⟩ := pay_slice hp2
    rw [hpn] at hg
    obtain ⟨cs, hcs⟩ : ∃ cs, flCells ⟨launchN W, m, false⟩ (.slice pa2 pn pc2) = cs := ⟨_, rfl⟩
    have hcs' : cs.toArray = #[.int .i64 (launchN W : Nat), .string m.topic, .slice pa2 pn pc2, .int .i64 m.qos, .bool m.ret, .bool false] := by rw [← hcs]; rfl
    have hlen6 : cs.length = 6 := by rw [← hcs]; rfl
    obtain ⟨V1, hV1⟩ : ∃ V1, (wc.alloc (.cells cs.toArray 86)).drew = V1 := ⟨_, rfl⟩
    have hb1 : Below wc.heap.size wc V1 := by rw [← hV1]; exact ((Below.refl _ wc).alloc (Nat.le_refl _) _).drew
    have hs1 : V1.heap.size = wc.heap.size + 1 := by rw [← hV1]; simp [World.drew]
    have hrow : RowAt V1 6 (.slice (some ⟨wc.heap.size, 0, none⟩) 1 1) 1 cs := by rw [← hV1]; exact row_one (w := wc) hlen6
    have hel : ElFl (fun b => W0.heap.size ≤ b ∧ b < wc.heap.size ∧ b ≠ fb) V1 cs ⟨launchN W, m, false⟩ := ⟨.slice pa2 pn pc2, hcs.symm, by have h1 := hp2.keep (Same.below hb1); rw [hpn] at h1 ⊢; exact h1⟩
    have hz1 := ht.size
    have hM0 : ∀ x, M x → x < W0.heap.size := fun x hx => by have := HLIM.out x hx; have := HS0.out; omega
    obtain ⟨fa0, fc0, hfv⟩ := ha.fslice
    have c3 : wc.cell? ⟨wb, 3, none⟩ = some fv := ha.cell 3 _ rfl
    obtain ⟨fa, fc, w6, hrun, k3, kf, hV⟩ := ha.moreF hb1 hel hrow (fun b hb => ⟨by omega, fun hx => by have := hM0 b hx; omega⟩) hlen
    have hgl : wc.heap[fb]? = some (.cells #[.int .i64 (launchN W : Nat), .string m.topic, .slice pa2 pn pc2, .int .i64 m.qos, .bool m.ret, .bool false] 86 (0, 0)) := hg
    have HG := Lib.hid hgl
    have HV := Lib.hid hV
    have HT := Lib.hid ht
    have HB1 := Lib.hid hb1
    have HP := Lib.hid hp2
    have HM0 := Lib.hid hM0
    have HZ1 := Lib.hid hz1
    have HFB := Lib.hid hfb
    have HS1 := Lib.hid hs1
    have HB0 := Lib.hid hb0
    clear hb0 HN HW0
    have z0 : wc.cell? ⟨fb, 0, none⟩ = some (.int .i64 (launchN W : Nat)) := cell4' hgl 0 _ rfl
    have z1 : wc.cell? ⟨fb, 1, none⟩ = some (.string m.topic) := cell4' hgl 1 _ rfl
    have z2 : wc.cell? ⟨fb, 2, none⟩ = some (.slice pa2 pn pc2) := cell4' hgl 2 _ rfl
    have z3 : wc.cell? ⟨fb, 3, none⟩ = some (.int .i64 m.qos) := cell4' hgl 3 _ rfl
    have z4 : wc.cell? ⟨fb, 4, none⟩ = some (.bool m.ret) := cell4' hgl 4 _ rfl
    have z5 : wc.cell? ⟨fb, 5, none⟩ = some (.bool false) := cell4' hgl 5 _ rfl
    have x3 : (wc.alloc (.cells #[.int .i64 (launchN W : Nat), .string m.topic, .slice pa2 pn pc2, .int .i64 m.qos, .bool m.ret, .bool false] 86)).cell? ⟨wb, 3, none⟩ = some fv := cell_below' ((Below.refl _ wc).alloc (Nat.le_refl _) _) c3
    have HA := Lib.hid ha.mw
    subst hfv
    subst hcs
    subst hV1
    obtain ⟨L, hL⟩ : ∃ L, W.fl.length = L := ⟨_, rfl⟩
    have HL := Lib.hid hL
    have HLEN := Lib.hid hlen
    have HNP := Lib.hid hn
    have HPN := Lib.hid hpn
    simp only [hL] at c3 x3 k3 hrun HV
    clear hV hel hrow hlen6 hcs' hgl hg ht hb1 hp2 ha hM0 hz1 hfb hs1 hL y0 y1 y2 y3 yy0 yy1 yy2 yy3 yz0 yz1 yz2 yz3 hlen hlast hn hpn HOWN hp g0 hmf
    go_upto_region 2 with fail
    go_region_law (refine step_append_run' _ (by rfl) _ _ _ _ (by rfl) _ _ (by rfl) (by rfl) _ _ hrun ?_)
    all_goals
      obtain ⟨W7, hW7⟩ : ∃ W7, w6.setCell ⟨wb, 3, none⟩ (.slice fa (L + 1) fc) = W7 := ⟨_, rfl⟩
      rw [hW7]
      obtain ⟨ha7, hM7, ht7⟩ := HV.out W7 hW7
      have q0 := HS0.out
      have q1 := HS1.out
      have q2 := HZ1.out
      have q3 := ht7.size
      have q4 := HFB.out
      have q5 := (Array.getElem?_eq_some_iff.1 HG.out).1
      have hgl : W7.heap[fb]? = some (.cells #[.int .i64 (launchN W : Nat), .string m.topic, .slice pa2 pn pc2, .int .i64 m.qos, .bool m.ret, .bool false] 86 (0, 0)) := (ht7.block fb (by omega) (fun hx => by have := HM0.out fb hx; omega)).trans ((HB1.out.block fb q5).trans HG.out)
      have hp7 := (HP.out.keep (Same.below HB1.out)).keep (w' := W7) (fun k hk hx => ht7.block k hk (fun hm => by have := HM0.out k hm; have := hx.1; omega))
      have HC := Lib.hid (packet_any (f := ⟨launchN W, m, false⟩) hp7 false HNP.out)
      rw [show pub false (⟨launchN W, m, false⟩ : Fl) = launchP W m from rfl] at HC
      have hpn' := HPN.out
      simp only [hpn'] at HC
      have hg1 : W7.heap[w.heap.size + 1]? = some (.cells noPk 45 (0, 0)) := (ht7.block _ (by omega) (fun hx => by have := HLIM.out _ hx; omega)).trans ((HB1.out.block _ (by omega)).trans ((HT.out.block _ (by omega) (fun hx => by have := HLIM.out _ hx; omega)).trans HG1.out))
      have HG7 := Lib.hid hg1
      have HA7 := Lib.hid ha7
      have HM7 := Lib.hid hM7
      have HT7 := Lib.hid ht7
      clear z0 z1 z2 z3 z4 z5 hg1 ha7 hM7 ht7 hW7 k3 kf hp7 hpn' q0 q1 q2 q3 q4 q5
      have z0 : W7.cell? ⟨fb, 0, none⟩ = some (.int .i64 (launchN W : Nat)) := cell4' hgl 0 _ rfl
      have z1 : W7.cell? ⟨fb, 1, none⟩ = some (.string m.topic) := cell4' hgl 1 _ rfl
      have z2 : W7.cell? ⟨fb, 2, none⟩ = some (.slice pa2 pn pc2) := cell4' hgl 2 _ rfl
      have z3 : W7.cell? ⟨fb, 3, none⟩ = some (.int .i64 m.qos) := cell4' hgl 3 _ rfl
      have z4 : W7.cell? ⟨fb, 4, none⟩ = some (.bool m.ret) := cell4' hgl 4 _ rfl
      have z5 : W7.cell? ⟨fb, 5, none⟩ = some (.bool false) := cell4' hgl 5 _ rfl
      clear hgl
      go_wp2_with fail
      refine HC.out.mono ?_
      rintro e w8 ⟨pv8, rfl, hp8, hb8⟩
      have hp8' : RowF (Fresh W7 w8) w8 1 pv8 m.pay.length (payCells m.pay) := hp8
      clear hp8
      obtain ⟨a8, c8, rfl⟩ := pay_slice hp8'
      have HP8 := Lib.hid hp8'
      have HB8 := Lib.hid hb8
      have hg8 := (hb8.block _ (Array.getElem?_eq_some_iff.1 HG7.out).1).trans HG7.out
      have HG8 := Lib.hid hg8
      clear hp8' hb8 z0 z1 z2 z3 z4 z5 hg8
      go_wp2_with (refine wpList_store_row rfl 45 _ _ rfl (w.heap.size + 1) _ rfl rfl _ _ HG8.out pkSize (by rfl) (by simp [pkCells, Value.oneCell']) ?_)
      obtain ⟨W9, hW9⟩ : ∃ W9, w8.setRow (w.heap.size + 1) (pkCells (launchP W m) (.slice a8 m.pay.length c8)).toArray = W9 := ⟨_, rfl⟩
      obtain ⟨g9, o9, s9, b9⟩ := row_set HG8.out hW9
      refine bodyPost_ret (v := .agg (pkCells (launchP W m) (.slice a8 m.pay.length c8)).toArray) (results_cell_row rfl _ _ (w.heap.size + 1) _ _ _ _ rfl (by rw [← hW9] at g9; exact g9) Try.underlying45 rfl pkSize) rfl ?_
      have q0 := HS0.out
      have q1 := HS1.out
      have q2 := HZ1.out
      have q3 := HT7.out.size
      have q8 := HB8.out.size
      have hfin : ∃ pv M' F', Ending.returned (.agg (pkCells (launchP W m) (.slice a8 m.pay.length c8)).toArray) = .returned (.agg (pkCells (launchP W m) pv).toArray) ∧ RowF (fun x => w.heap.size ≤ x ∧ x < W9.heap.size ∧ ¬ M' x) W9 1 pv pn (payCells m.pay) ∧ WinPost M F M' F' w W9 wb rb (launchW W m) := by
        have hk : ∀ x, (orF F (fun b => W0.heap.size ≤ b ∧ b < wc.heap.size ∧ b ≠ fb) x ∨ orBlk M (.slice fa (L + 1) fc) x) → x ≠ w.heap.size + 1 := fun x hx e => by
          rcases hx with (hx | hx) | hx
          · have := (HHF.out x hx).1; omega
          · have := hx.1; omega
          · rcases HM7.out x hx with hx | hx
            · have := HLIM.out x hx; omega
            · omega
        have hb9 : Below w.heap.size w8 W9 := b9 _ (by omega)
        have hrow := RowF.mono (F' := fun x => w.heap.size ≤ x ∧ x < W9.heap.size ∧ ¬ orBlk M (.slice fa (L + 1) fc) x) (RowF.keep HP8.out (fun k hk hF => o9 k (by have := hF.1; omega))) (fun x hx => ⟨by have := hx.1; omega, by have := hx.2; omega, fun hm => by have := HA7.out.lim x hm; have := hx.1; omega⟩)
        rw [HPN.out] at hrow ⊢
        refine ⟨_, _, _, rfl, hrow, ⟨⟨_, _, HA7.out.keep (w' := W9) (fun b hb hx => (o9 b (hk b (hx.elim (fun h => .inl h) (fun h => .inr h)))).trans (HB8.out.block b hb)) (by omega)⟩, fun x hx => .inl hx, fun x hx => ?_, fun x hx => .inl hx, fun x hx => ?_, ?_⟩⟩
        · rcases HM7.out x hx with hx | hx
          · exact .inl hx
          · exact .inr ⟨by omega, by omega⟩
        · rcases hx with hx | hx
          · exact .inl hx
          · exact .inr ⟨by have := hx.1; omega, by have := hx.2.1; omega⟩
        · have t1 := (Turn.of_below (S := M) HB0.out).trans' HT.out (fun x hx => .inl hx)
          have t2 := t1.trans' (Turn.of_below (S := M) HB1.out) (fun x hx => .inl hx)
          have t3 := t2.trans' HT7.out (fun x hx => .inl hx)
          have t4 := t3.trans' (Turn.of_below (S := M) HB8.out) (fun x hx => .inl hx)
          exact ⟨hb9.os.trans t4.os, hb9.tape.trans t4.tape, hb9.output.trans t4.output, by omega, fun k hk hm => (hb9.block k hk).trans (t4.block k hk hm)⟩
      rw [← hW9] at hfin
      exact hfin
end Go.Proofs.Ytppndkbicekkjaa

/- Plain: the packets that a call tells, a row of its own that grows while the window turns. No code walked. -/
namespace Go.Proofs.Ytppndkbicekkjaa
open Go Go.RowKit Go.Proofs.Gs Go.Proofs.Rt Go.Proofs.Sw
open Go.Proofs.Cc (Turn Grow)

theorem infoPk : (Try.prog.info? 45).map (fun i => (i.zero, i.size, i.bytes)) = some (some (.agg noPk), 25, 328) := by kernel_rfl

/-- A slice of one packet, built. -/
theorem run_pk (w : World) (cells : Array Value) (hc : cells.size = 25) : (Instr.buildSlice 30 1 #[(0, .agg cells)]).run Try.prog w = .ok (.slice (some ⟨w.heap.size, 0, none⟩) 1 1) (w.alloc (.cells cells 45)) := by
  obtain ⟨i, q1, q2, q3, q4⟩ := info_of infoPk
  refine run_buildSlice w 30 45 1 #[(0, .agg cells)] cells i _ Try.underlying30 q1 q2 (by rw [q3]; omega) (by rw [q3]; omega) ?_
  rw [q3]
  have h := Great.fill_whole (s := 25) (by omega) [.agg cells] ((Array.range (1 * 25)).map (fun x => (Value.agg noPk).cells[x % (Value.agg noPk).cells.size]!)) (by intro v hv; rw [List.mem_singleton.1 hv]; exact hc) (by simp)
  simpa [Value.cells] using h
theorem wpList_pk {ops : Array Oper} {rest : List Oper} {o : Oper} {a : Act} {w : World} {Q : Exit → Act → World → Prop} (hg : o.guard = none) (x : Operand) (ho : o.op = .buildSlice 30 1 #[(0, x)]) (cells : Array Value) (hx : a.eval x = .agg cells) (hc : cells.size = 25)
    (h : wpList Try.prog ops Q rest (a.put o.dst (.slice (some ⟨w.heap.size, 0, none⟩) 1 1)) (w.alloc (.cells cells 45))) : wpList Try.prog ops Q (o :: rest) a w :=
  wpList_plain hg fun _ hK => by
    unfold Oper.wp execOp
    simp only [ho, Sem.run_bind, List.map_toArray, List.map_cons, List.map_nil, hx, run_pk w cells hc, Result.andThen_ok]
    exact hK _ _ h

structure PksGro (Z : Nat) (M F : Nat → Prop) (w : World) (v : Value) (ps : List Pk) : Prop where
  gro : Gro Z 45 25 ElPk (fun b => Z ≤ b ∧ b < w.heap.size ∧ ¬ M b ∧ some b ≠ v.ownBlock) w v ps
  out : ∀ b, v.ownBlock = some b → ¬ M b ∧ ¬ F b

theorem PksGro.nil (Z : Nat) (M F : Nat → Prop) (w : World) : PksGro Z M F w (.slice none 0 0) [] := ⟨Gro.nil _ _ _ _ (fun b hb => hb.2.1), fun b e => by simp [Value.ownBlock] at e⟩
theorem PksGro.bound {Z : Nat} {M F : Nat → Prop} {w : World} {v : Value} {ps : List Pk} (h : PksGro Z M F w v ps) {b : Nat} (e : v.ownBlock = some b) : Z ≤ b ∧ b < w.heap.size := h.gro.bound e
theorem PksGro.turn {Z : Nat} {M F M' F' : Nat → Prop} {w w' : World} {v : Value} {ps : List Pk} (h : PksGro Z M F w v ps) (t : Turn M w w') (hM : ∀ x, M' x → M x ∨ w.heap.size ≤ x) (hF : ∀ x, F' x → F x ∨ w.heap.size ≤ x) : PksGro Z M' F' w' v ps := by
  have hsz := t.size
  have hk : Gro Z 45 25 ElPk (fun b => Z ≤ b ∧ b < w.heap.size ∧ ¬ M b ∧ some b ≠ v.ownBlock) w' v ps := h.gro.keep eltPk (fun b hb hx => t.block b hb (by rcases hx with hx | hx; exact hx.2.2.1; exact (h.out b hx.symm).1)) hsz
  refine ⟨hk.mono eltPk (fun b hb => ⟨hb.1, by omega, fun hm => ?_, hb.2.2.2⟩) (fun b hb => ⟨hb.2.1, hb.2.2.2⟩), fun b e => ⟨fun hm => ?_, fun hm => ?_⟩⟩
  · rcases hM b hm with hm | hm
    · exact hb.2.2.1 hm
    · omega
  · have := (h.bound e).2
    rcases hM b hm with hm | hm
    · exact (h.out b e).1 hm
    · omega
  · have := (h.bound e).2
    rcases hF b hm with hm | hm
    · exact (h.out b e).2 hm
    · omega
theorem PksGro.below {Z : Nat} {M F : Nat → Prop} {w w' : World} {v : Value} {ps : List Pk} (h : PksGro Z M F w v ps) (hb : Below w.heap.size w w') : PksGro Z M F w' v ps := h.turn (Turn.of_below (S := M) hb) (fun x hx => .inl hx) (fun x hx => .inl hx)
theorem PksGro.reads {Z : Nat} {M F : Nat → Prop} {w : World} {v : Value} {ps : List Pk} (h : PksGro Z M F w v ps) : Reads 25 ElPk (fun b => Z ≤ b ∧ b < w.heap.size ∧ ¬ M b ∧ some b ≠ v.ownBlock) w v ps := h.gro.reads eltPk (fun _ h => h)
theorem PksGro.slice {Z : Nat} {M F : Nat → Prop} {w : World} {v : Value} {ps : List Pk} (h : PksGro Z M F w v ps) : ∃ a c, v = .slice a ps.length c := h.gro.slice

theorem WinPost.grown {M F M1 F1 : Nat → Prop} {w w1 w2 : World} {wb rb : Nat} {W1 : Win} {blk : Option Nat} (h : WinPost M F M1 F1 w w1 wb rb W1) (g : w1.grownBy w2 blk) (hb : ∀ b, blk = some b → w.heap.size ≤ b ∧ ¬ M1 b ∧ ¬ F1 b) : WinPost M F M1 F1 w w2 wb rb W1 := by
  obtain ⟨fv, wv, h1⟩ := h.at'
  have hs := g.size
  have ht := h.turn
  have hs2 := ht.size
  refine ⟨⟨fv, wv, h1.keep (fun b hlt hx => g.block b hlt (fun e => by have := hb b e.symm; rcases hx with hx | hx; exact this.2.2 hx; exact this.2.1 hx)) hs⟩, h.sub, fun x hx => ?_, h.subF, fun x hx => ?_, ⟨g.os.trans ht.os, g.tape.trans ht.tape, g.output.trans ht.output, by omega, fun k hk hm => (g.block k (by omega) (fun e => by have := (hb k e.symm).1; omega)).trans (ht.block k hk hm)⟩⟩
  · rcases h.new x hx with hx | hx
    · exact .inl hx
    · exact .inr ⟨hx.1, by omega⟩
  · rcases h.newF x hx with hx | hx
    · exact .inl hx
    · exact .inr ⟨hx.1, by omega⟩

/-- append of packets that are read. -/
theorem PksGro.app {Z : Nat} {M F G : Nat → Prop} {w : World} {v v2 : Value} {ps bs : List Pk} (h : PksGro Z M F w v ps) (h2 : Reads 25 ElPk G w v2 bs) (hG : ∀ b, G b → Z ≤ b ∧ b < w.heap.size ∧ ¬ M b ∧ some b ≠ v.ownBlock) (hM : ∀ b, M b → b < w.heap.size) (hF : ∀ b, F b → b < w.heap.size) (hZ : Z ≤ w.heap.size) (hn : ps.length + bs.length ≤ 400000000) :
    ∃ a c w', (∀ ty, (Builtin.append_ #[30, 30] ty #[v, v2]).run Try.prog w = .ok (.slice a (ps.length + bs.length) c) w') ∧ PksGro Z M F w' (.slice a (ps.length + bs.length) c) (ps ++ bs) ∧ w.grownBy w' v.ownBlock := by
  obtain ⟨i, q1, q2, q3, q4⟩ := info_of infoPk
  obtain ⟨v', w', hr, hg, hgr, hv⟩ := gro_app eltPk (P := Try.prog) i _ 328 Try.underlying30 q1 q2 q3 q4 (by rfl) (by omega) h.gro h2 (fun b hb => ⟨(hG b hb).2.1, (hG b hb).2.2.2⟩) (by unfold maxLen; omega) (by omega) hZ
  obtain ⟨a, c, hs⟩ := hg.slice
  rw [List.length_append] at hs
  subst hs
  have hsz := hgr.size
  refine ⟨a, c, w', hr, ⟨hg.mono eltPk (fun b hb => ?_) (fun b hb => ⟨hb.2.1, hb.2.2.2⟩), fun b e => ?_⟩, hgr⟩
  · have hb' : Z ≤ b ∧ b < w.heap.size ∧ ¬ M b ∧ some b ≠ v.ownBlock := by rcases hb with hb | hb; exact hb; exact hG b hb
    refine ⟨hb'.1, by omega, hb'.2.2.1, fun e => ?_⟩
    rcases hv with hv | hv
    · exact hb'.2.2.2 (e.trans hv)
    · have := e.trans hv
      injection this with this
      omega
  · rcases hv with hv | hv
    · exact h.out b (hv ▸ e)
    · rw [hv] at e
      injection e with e
      exact ⟨fun hm => by have := hM b hm; omega, fun hm => by have := hF b hm; omega⟩

/-- append of one packet that was made. -/
theorem pks_push {M0 F0 M F : Nat → Prop} {w0 w : World} {wb rb Z n : Nat} {Wr : Win} {v pv : Value} {ps : List Pk} {p : Pk} (h : PksGro Z M F w v ps) (hZ : w0.heap.size = Z) (hW : WinPost M0 F0 M F w0 w wb rb Wr) (hpn : p.msg.pay.length = n) (hp : RowF (fun x => Z ≤ x ∧ x < w.heap.size ∧ ¬ M x ∧ some x ≠ v.ownBlock) w 1 pv n (payCells p.msg.pay)) (hn : ps.length ≤ 300000000) :
    ∃ a c w', (∀ ty, (Builtin.append_ #[30, 30] ty #[v, .slice (some ⟨w.heap.size, 0, none⟩) 1 1]).run Try.prog (w.alloc (.cells (pkCells p pv).toArray 45)) = .ok (.slice a (ps.length + 1) c) w') ∧ PksGro Z M F w' (.slice a (ps.length + 1) c) (ps ++ [p]) ∧ WinPost M0 F0 M F w0 w' wb rb Wr := by
  subst hpn
  obtain ⟨fv, wv, hat⟩ := hW.at'
  have hb1 : Below w.heap.size w (w.alloc (.cells (pkCells p pv).toArray 45)) := (Below.refl _ _).alloc (Nat.le_refl _) _
  have hs1 : (w.alloc (.cells (pkCells p pv).toArray 45)).heap.size = w.heap.size + 1 := by simp
  have ht := hW.turn.size
  have hlast : ∀ x, M x → x < w.heap.size := hat.lim
  have h1 := h.turn (M' := M) (F' := F) (Turn.of_below (S := M) hb1) (fun x hx => .inl hx) (fun x hx => .inl hx)
  have hr := reads_one eltPk (a := p) (cs := pkCells p pv) ⟨pv, rfl, hp⟩ (fun b hb => hb.2.1) 45
  obtain ⟨a, c, w', r1, r2, r3⟩ := h1.app hr (fun b hb => ⟨hb.1, by have := hb.2.1; omega, hb.2.2⟩) (fun b hb => by have := hlast b hb; omega) (fun b hb => by have := (hat.hF b hb).1; omega) (by omega) (by simp; omega)
  refine ⟨a, c, w', r1, r2, (hW.more hb1).grown r3 (fun b e => ⟨by have := (h.bound e).1; omega, (h.out b e).1, (h.out b e).2⟩)⟩

/-- One packet that was made, alone. -/
theorem pks_single {M0 F0 M F : Nat → Prop} {w0 w : World} {wb rb Z n : Nat} {Wr : Win} {pv : Value} {p : Pk} (hZ : Z ≤ w.heap.size) (hW : WinPost M0 F0 M F w0 w wb rb Wr) (hpn : p.msg.pay.length = n) (hp : RowF (fun x => Z ≤ x ∧ x < w.heap.size ∧ ¬ M x) w 1 pv n (payCells p.msg.pay)) :
    PksGro Z M F (w.alloc (.cells (pkCells p pv).toArray 45)) (.slice (some ⟨w.heap.size, 0, none⟩) 1 1) [p] ∧ WinPost M0 F0 M F w0 (w.alloc (.cells (pkCells p pv).toArray 45)) wb rb Wr := by
  subst hpn
  obtain ⟨fv, wv, hat⟩ := hW.at'
  have hb1 : Below w.heap.size w (w.alloc (.cells (pkCells p pv).toArray 45)) := (Below.refl _ _).alloc (Nat.le_refl _) _
  have hs1 : (w.alloc (.cells (pkCells p pv).toArray 45)).heap.size = w.heap.size + 1 := by simp
  refine ⟨⟨⟨⟨[pkCells p pv], Els.one ⟨pv, rfl, (hp.keep (Same.below hb1)).mono (fun x hx => ⟨hx.1, by have := hx.2.1; omega, hx.2.2, fun e => ?_⟩)⟩, ?_, .inr ⟨w.heap.size, 1, (pkCells p pv).toArray, rfl, hZ, (MapKept.heap_alloc w _).1, Nat.le_refl _, by unfold maxLen; omega, by simp [pkCells], by simp [pkCells]⟩⟩, fun b hb => ⟨hb.2.1, hb.2.2.2⟩⟩, fun b e => ?_⟩, hW.more hb1⟩
  · simp only [Value.ownBlock, Option.some.injEq] at e
    have := hx.2.1
    omega
  · simp [pkCells]
  · simp only [Value.ownBlock, Option.some.injEq] at e
    subst e
    exact ⟨fun hm => by have := hat.lim _ hm; omega, fun hm => by have := (hat.hF _ hm).1; omega⟩
end Go.Proofs.Ytppndkbicekkjaa

/- Proved here: the contract of window's fill. -/
namespace Go.Proofs.Ytppndkbicekkjaa
open Go Go.RowKit Go.Proofs.Gs Go.Proofs.Rt Go.Proofs.Sw Go.Proofs.Rg
open Go.Proofs.Cc (Turn Grow)

/-- What is asked of a window: its bounds, its payloads' sizes. -/
structure Small (W : Win) : Prop where
  win : W.win ≤ 65535
  que : W.que ≤ 65536
  last : W.last ≤ 65535
  fl : W.fl.length ≤ W.win
  wt : W.wt.length ≤ W.que
  fs : ∀ f ∈ W.fl, f.msg.pay.length ≤ 1000000000
  ws : ∀ m ∈ W.wt, m.pay.length ≤ 1000000000
theorem launchN_small (W : Win) (h : W.last ≤ 65535) : launchN W ≤ 65535 := numb_range _ _ _ h
theorem Small.launch {W : Win} {m : MsgV} (h : Small W) (hf : W.fl.length < W.win) (hm : m.pay.length ≤ 1000000000) : Small (launchW W m) :=
  ⟨h.win, h.que, launchN_small W h.last, by show (W.fl ++ [_]).length ≤ W.win; rw [List.length_append, List.length_singleton]; omega, h.wt, fun f hx => by rcases List.mem_append.1 hx with hx | hx; exact h.fs f hx; (rw [List.mem_singleton.1 hx]; exact hm), h.ws⟩
theorem Small.less {W : Win} {m : MsgV} {wt : List MsgV} (h : Small W) (hw : W.wt = m :: wt) : Small { W with wt := wt } ∧ m.pay.length ≤ 1000000000 :=
  ⟨⟨h.win, h.que, h.last, h.fl, by have := h.wt; rw [hw, List.length_cons] at this; show wt.length ≤ W.que; omega, h.fs, fun x hx => h.ws x (by rw [hw]; exact List.mem_cons_of_mem _ hx)⟩, h.ws m (by rw [hw]; exact List.mem_cons_self)⟩
theorem fillN_len : ∀ (n : Nat) (W : Win), (fillN n W).2.length ≤ n
  | 0, W => by simp [fillN]
  | n + 1, W => by
    rw [fillN]
    split
    · simp
    · split
      · simp only [List.length_cons]
        have := fillN_len n (launchW { W with wt := ‹_› } ‹_›)
        omega
      · simp

theorem size_set (X : World) (p : Addr) (u : Value) : (X.setCell p u).heap.size = X.heap.size := by simp [World.setCell]
set_option maxRecDepth 100000 in
theorem cut_wt (W : World) (a : Option Addr) (n cap : Nat) (h : (1 : Int) ≤ (n : Int)) : (Instr.slice 48 (.slice a n cap) (some (.int .i64 1)) none none).run Try.prog W = .ok (.slice (if cap = 1 then a else a.map (·.add 4)) (n - 1) (cap - 1)) W := by
  go_simp
theorem fillN_stop (g : Nat) (W : Win) (hg : W.wt.length = g) (h : W.on = false ∨ ¬ W.fl.length < W.win ∨ W.wt = []) : fillN g W = (W, []) := by
  cases g with
  | zero => rfl
  | succ g =>
    rw [fillN]
    split
    · rfl
    · rename_i m wt e
      rw [if_neg]
      rintro ⟨h1, h2⟩
      rcases h with h | h | h
      · rw [h] at h1; cases h1
      · exact h h2
      · rw [h] at e; cases e
theorem fillN_go (g : Nat) (W : Win) (m : MsgV) (wt : List MsgV) (hw : W.wt = m :: wt) (h1 : W.on = true) (h2 : W.fl.length < W.win) : fillN (g + 1) W = ((fillN g (launchW { W with wt := wt } m)).1, launchP { W with wt := wt } m :: (fillN g (launchW { W with wt := wt } m)).2) := by
  rw [fillN]
  split
  · rename_i e; rw [hw] at e; cases e
  · rename_i m' wt' e
    rw [hw] at e
    injection e with e1 e2
    subst e1; subst e2
    rw [if_pos ⟨h1, h2⟩]

set_option maxHeartbeats 2000000 in
set_option maxRecDepth 100000 in
theorem fill_any {M F : Nat → Prop} {w : World} {wb rb : Nat} {W : Win} {fv wv : Value} (h : WinAt M F w wb W fv wv rb) (hs : Small W) :
    Calls Try.prog 34 #[.pointer (some ⟨wb, 0, none⟩)] w fun e w' => ∃ v M' F', e = .returned v ∧ PksGro w.heap.size M' F' w' v (fillW W).2 ∧ WinPost M F M' F' w w' wb rb (fillW W).1 ∧ Small (fillW W).1 := by
  have HH := Lib.hid h
  have HS := Lib.hid hs
  obtain ⟨T, hT⟩ : ∃ T, fillW W = T := ⟨_, rfl⟩
  have HT := Lib.hid hT
  rw [hT]
  obtain ⟨n, hn⟩ : ∃ n, W.wt.length = n := ⟨_, rfl⟩
  have HN := Lib.hid hn
  clear h hs hT hn
  go_enter Try.func34, Try.ntmps34
  go_upto_region 2 with fail
  go_loopg [3] n (fun g s3 wr => ∃ (Wr : Win) (ps : List Pk) (Mr Fr : Nat → Prop), Wr.wt.length = g ∧ ps.length + g = n ∧ PksGro w.heap.size Mr Fr wr s3 ps ∧ WinPost M F Mr Fr w wr wb rb Wr ∧ Small Wr ∧ T = ((fillN g Wr).1, ps ++ (fillN g Wr).2))
  case atStart => exact ⟨W, [], M, F, HN.out, by simp, PksGro.nil _ _ _ _, WinPost.refl HH.out, HS.out, by rw [← HT.out, ← HN.out]; unfold fillW; rw [List.nil_append]⟩
  case round =>
    obtain ⟨Wr, ps, Mr, Fr, hg, hpn_, hp, hw, hsm, hTT⟩ := hrel
    obtain ⟨fvr, wvr, hat⟩ := hw.at'
    obtain ⟨fa, fc, rfl⟩ := hat.fslice
    obtain ⟨wa, wcap, rfl⟩ := hat.wslice
    have c0 : wr.cell? ⟨wb, 0, none⟩ = some (.int .i64 (Wr.win : Nat)) := hat.cell 0 _ rfl
    have c3 : wr.cell? ⟨wb, 3, none⟩ = some (.slice fa Wr.fl.length fc) := hat.cell 3 _ rfl
    have c4 : wr.cell? ⟨wb, 4, none⟩ = some (.slice wa Wr.wt.length wcap) := hat.cell 4 _ rfl
    have c6 : wr.cell? ⟨wb, 6, none⟩ = some (.bool Wr.on) := hat.cell 6 _ rfl
    cases hon : Wr.on with
    | false =>
        rw [hon] at c6
        have hst := fillN_stop gk Wr hg (.inl hon)
        rw [hst] at hTT
        have HTT := Lib.hid hTT
        have HFIN := Lib.hid (And.intro hp (And.intro hw hsm))
        clear hst hTT hp hw hsm hat hon
        go_upto_region 2 with fail
        go_region
        go_wp2_with fail
        go_ret
        rw [HTT.out]
        exact ⟨_, rfl, Mr, Fr, by rw [List.append_nil]; exact HFIN.out.1.below ((Below.refl _ wr).drew), HFIN.out.2.1.more ((Below.refl _ wr).drew), HFIN.out.2.2⟩
    | true =>
      rw [hon] at c6
      obtain ⟨L, hL⟩ : ∃ L, Wr.fl.length = L := ⟨_, rfl⟩
      obtain ⟨N, hN⟩ : ∃ N, Wr.win = N := ⟨_, rfl⟩
      rw [hL] at c3
      rw [hN] at c0
      by_cases hlt : L < N
      case neg =>
        have hd : decide (L < N) = false := decide_eq_false hlt
        have hst := fillN_stop gk Wr hg (.inr (.inl (by omega)))
        rw [hst] at hTT
        have HTT := Lib.hid hTT
        have HFIN := Lib.hid (And.intro hp (And.intro hw hsm))
        clear hst hTT hp hw hsm hat hon hL hN hlt
        go_upto_region 2 with fail
        go_region
        go_wp2_with fail
        go_ret
        rw [HTT.out]
        exact ⟨_, rfl, Mr, Fr, by rw [List.append_nil]; exact HFIN.out.1.below ((Below.refl _ wr).drew), HFIN.out.2.1.more ((Below.refl _ wr).drew), HFIN.out.2.2⟩
      have hd : decide (L < N) = true := decide_eq_true hlt
      cases hwt : Wr.wt with
      | nil =>
        rw [hwt] at c4
        have hd2 : decide (0 < ([] : List MsgV).length) = false := rfl
        obtain ⟨R, hR⟩ : ∃ R, ([] : List MsgV).length = R := ⟨_, rfl⟩
        rw [hR] at c4 hd2
        clear hR
        have hst := fillN_stop gk Wr hg (.inr (.inr hwt))
        rw [hst] at hTT
        have HTT := Lib.hid hTT
        have HFIN := Lib.hid (And.intro hp (And.intro hw hsm))
        clear hst hTT hp hw hsm hat hon hL hN hlt hwt
        go_upto_region 2 with fail
        go_region
        go_wp2_with fail
        go_ret
        rw [HTT.out]
        exact ⟨_, rfl, Mr, Fr, by rw [List.append_nil]; exact HFIN.out.1.below ((Below.refl _ wr).drew), HFIN.out.2.1.more ((Below.refl _ wr).drew), HFIN.out.2.2⟩
      | cons m wt =>
        rw [hwt] at c4
        have hd2 : decide (0 < (m :: wt).length) = true := decide_eq_true (by simp)
        obtain ⟨R, hR⟩ : ∃ R, (m :: wt).length = R := ⟨_, rfl⟩
        rw [hR] at c4 hd2
        obtain ⟨css, e1, o1⟩ := id hat.wts
        rw [hwt] at e1 o1
        obtain ⟨cs0, rest, rfl, ⟨pv0, rfl, hp0⟩, hr⟩ := e1.uncons
        obtain ⟨gb, go, hab, hcell⟩ : ∃ gb go, wa = some ⟨gb, go, none⟩ ∧ ∀ j u, (mgCells m pv0)[j]? = some u → wr.cell? ⟨gb, go + j, none⟩ = some u := by
          rcases RowAt.cases o1.row with ⟨h0, _⟩ | ⟨_, b', o', c', e', _, _, _, hc'⟩
          · simp at h0
          · injection e' with e1 e2 e3
            exact ⟨b', o', e1, fun j u hu => hc' j u (by rw [List.flatten_cons, List.getElem?_append_left (List.getElem?_eq_some_iff.1 hu).1]; exact hu)⟩
        subst hab
        obtain ⟨p0a, p0c, rfl⟩ := pay_slice hp0
        obtain ⟨pn, hpn⟩ : ∃ pn, m.pay.length = pn := ⟨_, rfl⟩
        rw [hpn] at hcell
        have m0 : wr.cell? ⟨gb, go, none⟩ = some (.string m.topic) := hcell 0 _ rfl
        have m1 : wr.cell? ⟨gb, go + 1, none⟩ = some (.slice p0a pn p0c) := hcell 1 _ rfl
        have m2 : wr.cell? ⟨gb, go + 2, none⟩ = some (.int .i64 m.qos) := hcell 2 _ rfl
        have m3 : wr.cell? ⟨gb, go + 3, none⟩ = some (.bool m.ret) := hcell 3 _ rfl
        have hR0 : (0 : Int) < (R : Int) := by rw [← hR]; simp
        obtain ⟨V0, hV0⟩ : ∃ V0, wr.alloc (.cells #[.string m.topic, .slice p0a pn p0c, .int .i64 m.qos, .bool m.ret] 41) = V0 := ⟨_, rfl⟩
        have hbV : Below wr.heap.size wr V0 := by rw [← hV0]; exact (Below.refl _ _).alloc (Nat.le_refl _) _
        have hsV : V0.heap.size = wr.heap.size + 1 := by rw [← hV0]; simp
        have gV : V0.heap[wr.heap.size]? = some (.cells #[.string m.topic, .slice p0a pn p0c, .int .i64 m.qos, .bool m.ret] 41 (0, 0)) := by rw [← hV0]; exact (MapKept.heap_alloc wr _).1
        have x4 := cell_below' hbV c4
        have f4 := frozen_of_row V0 wb 4 _ _ (hat.below hbV).row
        have hR1 : (1 : Int) ≤ (R : Int) := by rw [← hR, List.length_cons]; omega
        obtain ⟨a9, R9, c9, hcut, h9⟩ : ∃ a9 R9 c9, (∀ W, (Instr.slice 48 (.slice (some ⟨gb, go, none⟩) R wcap) (some (.int .i64 1)) none none).run Try.prog W = .ok (.slice a9 R9 c9) W) ∧ Value.slice a9 R9 c9 = .slice (if wcap = 1 then some ⟨gb, go, none⟩ else (some (⟨gb, go, none⟩ : Addr)).map (·.add 4)) (R - 1) (wcap - 1) := ⟨_, _, _, fun W => cut_wt W _ R wcap hR1, rfl⟩
        obtain ⟨V1, hV1_⟩ : ∃ V1, (V0.setCell ⟨wb, 4, none⟩ (.slice a9 R9 c9)).drew = V1 := ⟨_, rfl⟩
        have hV1 : V0.drew.setCell ⟨wb, 4, none⟩ (.slice a9 R9 c9) = V1 := by rw [← hV1_]; rfl
        have hbVd : Below wr.heap.size wr V0.drew := hbV.drew
        have hat1 := hat.below hbVd
        obtain ⟨hat2, ht2⟩ : WinAt Mr Fr V1 wb { Wr with wt := wt } (.slice fa Wr.fl.length fc) (.slice a9 R9 c9) rb ∧ Turn Mr V0.drew V1 := by
          rw [h9] at hV1 ⊢
          rw [hwt, hR] at hat1
          exact WinAt.lessW hat1 hwt hV1
        have hsV1 : V1.heap.size = wr.heap.size + 1 := by rw [← hV1, size_set]; exact hsV
        have gV1 : V1.heap[wr.heap.size]? = some (.cells #[.string m.topic, .slice p0a pn p0c, .int .i64 m.qos, .bool m.ret] 41 (0, 0)) := by
          rw [← hV1, heap_setCell_other _ _ _ _ (fun e => by have := hat.lim _ hat.mw; have e2 : wr.heap.size = wb := e; omega)]
          exact gV
        have n0 : V1.cell? ⟨wr.heap.size, 0, none⟩ = some (.string m.topic) := cell4' gV1 0 _ rfl
        have n1 : V1.cell? ⟨wr.heap.size, 1, none⟩ = some (.slice p0a pn p0c) := cell4' gV1 1 _ rfl
        have n2 : V1.cell? ⟨wr.heap.size, 2, none⟩ = some (.int .i64 m.qos) := cell4' gV1 2 _ rfl
        have n3 : V1.cell? ⟨wr.heap.size, 3, none⟩ = some (.bool m.ret) := cell4' gV1 3 _ rfl
        have hwp2 : WinPost M F Mr Fr w V1 wb rb { Wr with wt := wt } := hw.trans (w1 := wr) ⟨⟨_, _, hat2⟩, fun _ h => h, fun _ h => .inl h, fun _ h => h, fun _ h => .inl h, (Turn.of_below (S := Mr) hbVd).trans' ht2 (fun x hx => .inl hx)⟩
        have hpk2 : PksGro w.heap.size Mr Fr V1 u3 ps := hp.turn ((Turn.of_below (S := Mr) hbVd).trans' ht2 (fun x hx => .inl hx)) (fun x hx => .inl hx) (fun x hx => .inl hx)
        obtain ⟨hsm2, hmp⟩ := hsm.less hwt
        have hL1 : L ≤ 65535 := by have := hsm.win; have := hsm.fl; omega
        have hp2 := (hp0.keep (Same.below hbVd)).keep (w' := V1) (fun k hk hx => ht2.block k hk (hat.hF k hx).2)
        have HCALL := Lib.hid (launch_any (G := Fr) (v := .agg #[.string m.topic, .slice p0a pn p0c, .int .i64 m.qos, .bool m.ret]) hat2 ⟨_, rfl, by rw [hpn] at hp2 ⊢; exact hp2⟩ hat2.hF (by rw [← hL] at hL1; exact hL1) hsm.last hmp)
        obtain ⟨gk', hgk⟩ : ∃ g, gk = g + 1 := ⟨wt.length, by rw [← hg, hwt, List.length_cons]⟩
        subst hgk
        have hwl : wt.length = gk' := by rw [hwt, List.length_cons] at hg; omega
        rw [fillN_go gk' Wr m wt hwt hon (by omega)] at hTT
        have hsm3 := hsm2.launch (m := m) (by show Wr.fl.length < Wr.win; omega) hmp
        have HV1 := Lib.hid hV1_
        have HWP2 := Lib.hid hwp2
        have HPK2 := Lib.hid hpk2
        have HSM3 := Lib.hid hsm3
        have HWL := Lib.hid hwl
        have HPL := Lib.hid hpn
        have HTT := Lib.hid hTT
        have HNN := Lib.hid (show ps.length + (gk' + 1) = n ∧ n ≤ 65536 from ⟨hpn_, by have := HS.out.wt; have := HS.out.que; have := HN.out; omega⟩)
        have HZ := Lib.hid (show w.heap.size ≤ V1.heap.size from by have := hw.turn.size; omega)
        clear hV1 hV1_ hwp2 hpk2 hsm3 hwl hTT hpn_ hsm2 hmp hL1 hp2 hat2 ht2 gV1 hsV1 hat1 hbVd h9 hR1 gV hsV hbV hp0 hpn hR hL hN hon hwt hg hp hw hsm hat o1 e1 hr hcell
        go_upto_region 2 with fail
        go_region
        go_upto_region 4 with fail
        clear m0 m1 m2 m3 c0 c3 c4 c6 hR0
        go_upto_region 5 with fail
        rw [HV1.out]
        clear HV1 x4 f4 hcut
        go_wp2_with fail
        refine HCALL.out.mono ?_
        rintro e w5 ⟨pv5, M5, F5, rfl, hp5, hw5⟩
        have hZ := HZ.out
        have hpk5 : PksGro w.heap.size M5 F5 w5 u3 ps := HPK2.out.turn hw5.turn (fun x hx => by rcases hw5.new x hx with hx | hx; exact .inl hx; exact .inr hx.1) (fun x hx => by rcases hw5.newF x hx with hx | hx; exact .inl hx; exact .inr hx.1)
        have hwp5 := HWP2.out.trans hw5
        obtain ⟨pa5, pc5, rfl⟩ := pay_slice hp5
        have hps : RowF (fun x => w.heap.size ≤ x ∧ x < w5.heap.size ∧ ¬ M5 x ∧ some x ≠ u3.ownBlock) w5 1 (.slice pa5 m.pay.length pc5) m.pay.length (payCells m.pay) := hp5.mono (fun x hx => ⟨by have := hx.1; omega, hx.2.1, hx.2.2, fun e => by have := (HPK2.out.bound e.symm).2; have := hx.1; omega⟩)
        obtain ⟨sa, sc, w6, hrun, hpk6, hwp6⟩ := pks_push (p := launchP { Wr with wt := wt } m) hpk5 rfl hwp5 rfl hps (by have := HNN.out; omega)
        have hlp : (launchP { Wr with wt := wt } m).msg = m := rfl
        have HPK6 := Lib.hid hpk6
        have HWP6 := Lib.hid hwp6
        clear hp5 hw5 hZ hpk5 hwp5 hps hpk6 hwp6 n0 n1 n2 n3
        go_wp2_with (first | (refine wpList_pk rfl _ rfl _ rfl (by rfl) ?_) | (at_builtin; refine Lib.wpList_append_run _ rfl _ _ _ _ rfl _ _ rfl rfl _ _ (hrun _) ?_))
        go_roundg gk'
        case measure => omega
        case rel => exact ⟨launchW { Wr with wt := wt } m, ps ++ [launchP { Wr with wt := wt } m], M5, F5, HWL.out, by rw [List.length_append, List.length_singleton]; have := HNN.out; omega, HPK6.out, HWP6.out, HSM3.out, by rw [HTT.out, List.append_assoc]; rfl⟩
end Go.Proofs.Ytppndkbicekkjaa

/- Plain law: what the layer topic answers, as functions on texts. No program in sight. -/
namespace Go.Proofs.Tp
open Go

theorem extract_drop (s : ByteArray) (i : Nat) : (s.extract i s.size).data.toList = s.data.toList.drop i := by
  rw [Lib.extract_data]
  rw [List.take_of_length_le (by simp)]

/-- Is it a text? -/
def isText (s : ByteArray) : Bool := decide (s.size ≤ 65535) && utf [] s.data.toList

/-- Has it a sign? -/
def signL (l : List UInt8) : Bool := l.any fun c => c == 43 || c == 35
def sign (s : ByteArray) : Bool := signL s.data.toList

def textE (s : ByteArray) : Int := if s.size = 0 then 50 else if isText s then 0 else 51
def chk (s : ByteArray) : Int := if textE s = 0 then (if sign s then 52 else 0) else textE s

/-- A filter's levels: is there one that cannot stand? -/
def badLv : List ByteArray → Bool
  | [] => false
  | x :: r => (sign x && decide (1 < x.size)) || (decide (x.data.toList = [35]) && !r.isEmpty) || badLv r

def chkF (s : ByteArray) : Int := if textE s = 0 then (if badLv (levels s) then 52 else 0) else textE s

theorem textE_nonneg (s : ByteArray) : 0 ≤ textE s := by unfold textE; split <;> (try split) <;> omega
theorem textE_lt (s : ByteArray) : textE s < 60 := by unfold textE; split <;> (try split) <;> omega
theorem chk_nonneg (s : ByteArray) : 0 ≤ chk s := by unfold chk; have := textE_nonneg s; split <;> (try split) <;> omega
theorem chk_lt (s : ByteArray) : chk s < 60 := by unfold chk; have := textE_lt s; split <;> (try split) <;> omega
theorem chkF_nonneg (s : ByteArray) : 0 ≤ chkF s := by unfold chkF; have := textE_nonneg s; split <;> (try split) <;> omega
theorem chkF_lt (s : ByteArray) : chkF s < 60 := by unfold chkF; have := textE_lt s; split <;> (try split) <;> omega

/-- Where the decoding says U+FFFD: it stands there (three bytes), or the byte is amiss. -/
theorem decode_fffd (s : ByteArray) (pos : Nat) (h : pos < s.size) (hc : (Utf8.decode s pos).1 = 65533) :
    Lib.hasPrefix (s.data.toList.drop pos) [239, 191, 189] = !decide ((Utf8.decode s pos).2 = 1) := by
  have b0 := (s.get! pos).toNat_lt; have b1 := (s.get! (pos + 1)).toNat_lt; have b2 := (s.get! (pos + 2)).toNat_lt
  have t0 : ∀ (x y : UInt8), x = y ↔ x.toNat = y.toNat := fun x y => ⟨fun e => by rw [e], UInt8.toNat.inj⟩
  have hp : Lib.hasPrefix (s.data.toList.drop pos) [239, 191, 189] = decide ((s.get! pos).toNat = 239 ∧ pos + 1 < s.size ∧ (s.get! (pos + 1)).toNat = 191 ∧ pos + 2 < s.size ∧ (s.get! (pos + 2)).toNat = 189) := by
    unfold Lib.hasPrefix
    rw [drop_get s pos h]
    by_cases h1 : pos + 1 < s.size
    · rw [drop_get s _ h1]
      by_cases h2 : pos + 2 < s.size
      · rw [drop_get s _ h2, Bool.eq_iff_iff]
        simp only [List.isPrefixOf, Bool.and_true, Bool.and_eq_true, beq_iff_eq, decide_eq_true_eq, h1, h2, true_and]
        rw [t0 239, t0 191, t0 189]
        have e1 : (239 : UInt8).toNat = 239 := rfl
        have e2 : (191 : UInt8).toNat = 191 := rfl
        have e3 : (189 : UInt8).toNat = 189 := rfl
        rw [e1, e2, e3]
        omega
      · rw [drop_end s _ h2]
        have : ¬ ((s.get! pos).toNat = 239 ∧ pos + 1 < s.size ∧ (s.get! (pos + 1)).toNat = 191 ∧ pos + 2 < s.size ∧ (s.get! (pos + 2)).toNat = 189) := by omega
        rw [decide_eq_false this]
        simp [List.isPrefixOf]
    · rw [drop_end s _ h1]
      have : ¬ ((s.get! pos).toNat = 239 ∧ pos + 1 < s.size ∧ (s.get! (pos + 1)).toNat = 191 ∧ pos + 2 < s.size ∧ (s.get! (pos + 2)).toNat = 189) := by omega
      rw [decide_eq_false this]
      simp [List.isPrefixOf]
  rw [hp]
  rw [decode_eq s pos h] at hc ⊢
  obtain ⟨n, hn⟩ : ∃ n, n = s.size - pos := ⟨_, rfl⟩
  rw [← hn] at hc ⊢
  have e1 : (pos + 1 < s.size) = (1 < n) := by simp; omega
  have e2 : (pos + 2 < s.size) = (2 < n) := by simp; omega
  simp only [e1, e2]
  clear hp e1 e2 hn h
  generalize (s.get! pos).toNat = c0 at *
  generalize (s.get! (pos + 1)).toNat = c1 at *
  generalize (s.get! (pos + 2)).toNat = c2 at *
  generalize (s.get! (pos + 3)).toNat = c3 at *
  by_cases q : c0 = 239 ∧ 1 < n ∧ c1 = 191 ∧ 2 < n ∧ c2 = 189
  · rw [decide_eq_true q]
    obtain ⟨rfl, q1, rfl, q2, rfl⟩ := q
    have : decN n 239 191 189 c3 = (65533, 3) := by simp [decN, q1, q2]
    rw [this]; rfl
  · rw [decide_eq_false q]
    have : (decN n c0 c1 c2 c3).2 = 1 := by
      unfold decN at hc ⊢
      split
      · rfl
      · rename_i g0
        rw [if_neg g0] at hc
        split
        · rename_i g1
          rw [if_pos g1] at hc
          split
          · rename_i g2; rw [if_pos g2] at hc; simp only at hc; omega
          · rfl
        · rename_i g1
          rw [if_neg g1] at hc
          split
          · rename_i g2
            rw [if_pos g2] at hc
            split
            · rename_i g3; rw [if_pos g3] at hc; simp only at hc; omega
            · rfl
          · rename_i g2
            rw [if_neg g2] at hc
            split
            · rename_i g3
              rw [if_pos g3] at hc
              split
              · rename_i g4; rw [if_pos g4] at hc; simp only at hc; omega
              · rfl
            · rfl
    rw [this]; rfl

/-- Where a decoding tells no sign, the bytes that it takes are none; where it tells one, there is one. -/
theorem sign_step (s : ByteArray) (pos : Nat) (h : pos < s.size) (h1 : (Utf8.decode s pos).1 ≠ 43) (h2 : (Utf8.decode s pos).1 ≠ 35) :
    signL (s.data.toList.drop pos) = signL (s.data.toList.drop (pos + (Utf8.decode s pos).2)) := by
  have a := (decode_byte s pos h 43 (by decide))
  have b := (decode_byte s pos h 35 (by decide))
  have a1 := a.1.resolve_left (fun x => h1 x.1)
  have b1 := b.1.resolve_left (fun x => h2 x.1)
  have key : ∀ w, (∀ j, j < w → s.data.toList[pos + j]? ≠ some 43) → (∀ j, j < w → s.data.toList[pos + j]? ≠ some 35) → signL (s.data.toList.drop pos) = signL (s.data.toList.drop (pos + w)) := by
    intro w ha hb
    induction w with
    | zero => rfl
    | succ w ih =>
      rw [ih (fun j hj => ha j (by omega)) (fun j hj => hb j (by omega))]
      by_cases hp : pos + w < s.size
      · rw [drop_get s (pos + w) hp, ← Nat.add_assoc]
        have g := get_toList s (pos + w) hp
        have n1 : s.get! (pos + w) ≠ 43 := fun e => ha w (by omega) (by rw [g, e])
        have n2 : s.get! (pos + w) ≠ 35 := fun e => hb w (by omega) (by rw [g, e])
        simp [signL, n1, n2]
      · rw [drop_end s _ hp, drop_end s _ (by omega)]
  exact key _ a1.2 b1.2

theorem sign_here (s : ByteArray) (pos : Nat) (h : pos < s.size) (h1 : (Utf8.decode s pos).1 = 43 ∨ (Utf8.decode s pos).1 = 35) : signL (s.data.toList.drop pos) = true := by
  rw [drop_get s pos h]
  rcases h1 with h1 | h1
  · have a := (decode_byte s pos h 43 (by decide)).1.resolve_right (fun x => x.1 h1)
    have g := get_toList s pos h
    rw [a.2.2] at g
    rw [← Option.some.inj g]; rfl
  · have a := (decode_byte s pos h 35 (by decide)).1.resolve_right (fun x => x.1 h1)
    have g := get_toList s pos h
    rw [a.2.2] at g
    rw [← Option.some.inj g]; rfl

theorem indexAny_sign : ∀ l : List UInt8, decide (0 ≤ Lib.indexAny l [43, 35]) = signL l
  | [] => rfl
  | c :: l => by
    have ih := indexAny_sign l
    have hg := Lib.indexAny_ge [43, 35] l
    unfold Lib.indexAny
    by_cases h : [43, 35].contains c = true
    · rw [if_pos h]
      have : signL (c :: l) = true := by
        simp only [List.contains_cons, List.contains_nil, Bool.or_false, Bool.or_eq_true, beq_iff_eq] at h
        rcases h with rfl | rfl <;> rfl
      rw [this]; rfl
    · rw [if_neg h]
      have : signL (c :: l) = signL l := by
        simp only [List.contains_cons, List.contains_nil, Bool.or_false, Bool.or_eq_true, beq_iff_eq, not_or] at h
        simp [signL, h.1, h.2]
      rw [this, ← ih]
      by_cases h0 : 0 ≤ Lib.indexAny l [43, 35]
      · have : (Lib.indexAny l [43, 35] == -1) = false := by rw [beq_eq_false_iff_ne]; omega
        rw [this]; simp only [Bool.false_eq_true, if_false]
        rw [decide_eq_true h0, decide_eq_true (by omega)]
      · have : (Lib.indexAny l [43, 35] == -1) = true := by rw [beq_iff_eq]; omega
        rw [this]; simp only [if_true]
        rw [decide_eq_false h0]; rfl

/-- Two texts, byte by byte. -/
def cmpB (x y : ByteArray) : Int := if x.data.toList < y.data.toList then -1 else if y.data.toList < x.data.toList then 1 else 0

/-- Lists of texts, one by one. -/
def cmpL : List ByteArray → List ByteArray → Int
  | [], [] => 0
  | [], _ :: _ => -1
  | _ :: _, [] => 1
  | x :: a, y :: b => if cmpB x y = 0 then cmpL a b else cmpB x y

def cmpT (a b : ByteArray) : Int := cmpL (levels a) (levels b)

/-- Do a filter's levels match a topic's? -/
def goesL : List ByteArray → List ByteArray → Bool
  | [], t => t.isEmpty
  | f :: fs, t => if f.data.toList = [35] then true else
    match t with
    | [] => false
    | x :: ts => if f.data.toList = [43] ∨ f = x then goesL fs ts else false

def mkB (l : List UInt8) : ByteArray := ⟨l.toArray⟩

/-- Levels as a text. -/
def joinT (L : List ByteArray) : ByteArray := ⟨(Lib.join (L.map (·.data.toList)) [47]).toArray⟩

/-- A shared filter's group and inner filter. -/
def shared (s : ByteArray) : Option (ByteArray × ByteArray) :=
  match levels s with
  | a :: g :: x :: r =>
    if a.data.toList = [36, 115, 104, 97, 114, 101] ∧ chk g = 0 ∧ chkF (joinT (x :: r)) = 0 ∧ chkF s = 0 then some (g, joinT (x :: r)) else none
  | _ => none

/-- Does a filter match a topic? -/
def matchT (f t : ByteArray) : Bool :=
  if (shared f).isSome ∨ chkF f ≠ 0 ∨ chk t ≠ 0 then false
  else if t.data.toList.head? = some 36 ∧ ((levels f).head?.map (·.data.toList) = some [43] ∨ (levels f).head?.map (·.data.toList) = some [35]) then false
  else goesL (levels f) (levels t)

end Go.Proofs.Tp

/- Plain law: levels and their texts. No program in sight. -/
namespace Go.Proofs.Tp
open Go

/-- A text cut at its slashes. -/
def split : List UInt8 → List (List UInt8)
  | [] => [[]]
  | c :: r => if c = 47 then [] :: split r else match split r with | [] => [[c]] | h :: t => (c :: h) :: t

theorem split_cons (c : UInt8) (r : List UInt8) : split (c :: r) = if c = 47 then [] :: split r else match split r with | [] => [[c]] | h :: t => (c :: h) :: t := by rw [split]

theorem split_ne (l : List UInt8) : split l ≠ [] := by
  cases l with
  | nil => simp [split]
  | cons c r => unfold split; split <;> (try split) <;> simp

theorem split_plain : ∀ (a : List UInt8), 47 ∉ a → split a = [a]
  | [], _ => rfl
  | c :: r, h => by
    have h1 : c ≠ 47 := fun e => h (by rw [e]; exact List.mem_cons_self)
    have ih := split_plain r (fun e => h (List.mem_cons_of_mem _ e))
    unfold split
    rw [if_neg h1, ih]

theorem split_cut : ∀ (a b : List UInt8), split (a ++ 47 :: b) = split a ++ split b
  | [], b => by simp [split]
  | c :: r, b => by
    have ih := split_cut r b
    rw [List.cons_append, split_cons, split_cons]
    by_cases h : c = 47
    · rw [if_pos h, if_pos h, ih]; rfl
    · rw [if_neg h, if_neg h, ih]
      cases hs : split r with
      | nil => exact absurd hs (split_ne r)
      | cons x t => rfl

theorem join_split : ∀ (l : List UInt8), Lib.join (split l) [47] = l
  | [] => rfl
  | c :: r => by
    have ih := join_split r
    unfold split
    by_cases h : c = 47
    · rw [if_pos h, h]
      cases hs : split r with
      | nil => exact absurd hs (split_ne r)
      | cons x t =>
        rw [hs] at ih
        rw [Lib.join_cons] at ih ⊢
        simp only [Lib.joinTail, List.map_cons, List.flatten_cons, List.nil_append, List.cons_append] at ih ⊢
        rw [ih]
    · rw [if_neg h]
      cases hs : split r with
      | nil => exact absurd hs (split_ne r)
      | cons x t =>
        rw [hs] at ih
        rw [Lib.join_cons] at ih ⊢
        rw [List.cons_append, ih]

/-- No level bears a slash. -/
theorem split_noslash : ∀ (l x : List UInt8), x ∈ split l → 47 ∉ x
  | [], x, h => by simp [split] at h; subst h; simp
  | c :: r, x, h => by
    unfold split at h
    by_cases hc : c = 47
    · rw [if_pos hc] at h
      rcases List.mem_cons.1 h with rfl | h
      · simp
      · exact split_noslash r x h
    · rw [if_neg hc] at h
      cases hs : split r with
      | nil => exact absurd hs (split_ne r)
      | cons y t =>
        rw [hs] at h
        rcases List.mem_cons.1 h with rfl | h
        · intro hm
          rcases List.mem_cons.1 hm with e | hm
          · exact hc e.symm
          · exact split_noslash r y (by rw [hs]; exact List.mem_cons_self) hm
        · exact split_noslash r x (by rw [hs]; exact List.mem_cons_of_mem _ h)

theorem split_join : ∀ (L : List (List UInt8)), L ≠ [] → (∀ x, x ∈ L → 47 ∉ x) → split (Lib.join L [47]) = L
  | [], h, _ => absurd rfl h
  | [x], _, h => by rw [Lib.join_one]; exact split_plain x (h x List.mem_cons_self)
  | x :: y :: r, _, h => by
    have ih := split_join (y :: r) (by simp) (fun z hz => h z (List.mem_cons_of_mem _ hz))
    have e : Lib.join (x :: y :: r) [47] = x ++ 47 :: Lib.join (y :: r) [47] := by
      rw [Lib.join_cons, Lib.join_cons]; simp [Lib.joinTail]
    rw [e, split_cut, ih, split_plain x (h x List.mem_cons_self)]
    rfl

theorem lvTo_split (s : ByteArray) : ∀ n, n ≤ s.size →
    split s.data.toList = (lvTo s n).1.map (·.data.toList) ++ split (s.data.toList.drop (lvTo s n).2) ∧ 47 ∉ (s.data.toList.drop (lvTo s n).2).take (n - (lvTo s n).2)
  | 0, _ => by simp [lvTo]
  | n + 1, hn => by
    obtain ⟨h1, h2⟩ := lvTo_split s n (by omega)
    have hle := (lvTo_le s n).1
    have hlen : s.data.toList.length = s.size := by simp
    rw [lvTo_succ]
    unfold lvStep
    generalize lvTo s n = st at *
    obtain ⟨D, f⟩ := st
    simp only at h1 h2 hle ⊢
    have hd : (s.data.toList.drop f) = (s.data.toList.drop f).take (n - f) ++ s.data.toList.drop n := by
      have := List.take_append_drop (n - f) (s.data.toList.drop f)
      rw [List.drop_drop, show f + (n - f) = n from by omega] at this
      exact this.symm
    have hg : s.data.toList.drop n = s.get! n :: s.data.toList.drop (n + 1) := drop_get s n (by omega)
    by_cases h47 : s.data.toList[n]? = some 47
    · rw [if_pos h47]
      have hg47 : s.get! n = 47 := by
        have := get_toList s n (by omega)
        rw [h47] at this
        exact (Option.some.inj this).symm
      rw [hg, hg47] at hd
      refine ⟨?_, by simp⟩
      simp only
      rw [h1]
      conv => lhs; rw [hd]
      rw [split_cut, split_plain _ h2, List.map_append, List.map_cons, List.map_nil, Lib.extract_data, List.append_assoc]
    · rw [if_neg h47]
      refine ⟨h1, ?_⟩
      simp only
      intro hm
      rw [hd, hg] at hm
      have hl : ((s.data.toList.drop f).take (n - f)).length = n - f := by simp; omega
      rw [show n + 1 - f = (n - f) + 1 from by omega, List.take_append, hl, show n - f + 1 - (n - f) = 1 from by omega, List.mem_append] at hm
      rcases hm with hm | hm
      · exact h2 (List.mem_of_mem_take hm)
      · simp only [List.take_succ_cons, List.take_zero, List.mem_cons, List.not_mem_nil, or_false] at hm
        exact h47 (by rw [get_toList s n (by omega), ← hm])

/-- The levels, as lists of bytes. -/
theorem levels_split (s : ByteArray) : (levels s).map (·.data.toList) = split s.data.toList := by
  obtain ⟨h1, h2⟩ := lvTo_split s s.size (Nat.le_refl _)
  have hle := (lvTo_le s s.size).1
  rw [List.take_of_length_le (by simp)] at h2
  rw [h1, split_plain _ h2]
  unfold levels
  rw [List.map_append, List.map_cons, List.map_nil, extract_drop]

theorem join_levels (s : ByteArray) : Lib.join ((levels s).map (·.data.toList)) [47] = s.data.toList := by rw [levels_split, join_split]

theorem joinT_levels (s : ByteArray) : joinT (levels s) = s := by
  unfold joinT; rw [join_levels]

theorem joinT_data (L : List ByteArray) : (joinT L).data.toList = Lib.join (L.map (·.data.toList)) [47] := rfl

theorem size_eq (s : ByteArray) : s.size = s.data.toList.length := by simp

/-- What stands behind the first two levels is no longer than the whole. -/
theorem inner_size (s : ByteArray) (a g x : ByteArray) (r : List ByteArray) (h : levels s = a :: g :: x :: r) : (joinT (x :: r)).size + 2 ≤ s.size ∧ g.size + 2 ≤ s.size := by
  have hj := join_levels s
  rw [h] at hj
  have e : Lib.join (List.map (·.data.toList) (a :: g :: x :: r)) [47] = a.data.toList ++ 47 :: (g.data.toList ++ 47 :: Lib.join (List.map (·.data.toList) (x :: r)) [47]) := by
    simp only [List.map_cons]
    rw [Lib.join_cons, Lib.join_cons]; simp [Lib.joinTail]
  rw [e] at hj
  rw [size_eq, size_eq, size_eq g, joinT_data, ← hj]
  simp only [List.length_append, List.length_cons]
  omega

theorem need_high {c : Nat} {p : List (Nat × Nat)} (h : need c = some p) : ∀ x, x ∈ p → 128 ≤ x.1 := by
  unfold need at h
  repeat' split at h
  all_goals first
    | (cases h; done)
    | (injection h with h; subst h; intro x hx; simp at hx; done)
    | (injection h with h; subst h; intro x hx; simp at hx; rcases hx with rfl | rfl | rfl <;> decide)
    | (injection h with h; subst h; intro x hx; simp at hx; rcases hx with rfl | rfl <;> decide)
    | (injection h with h; subst h; intro x hx; simp at hx; subst hx; decide)

theorem utf_cut : ∀ (a b : List UInt8) (p : List (Nat × Nat)), (∀ x, x ∈ p → 128 ≤ x.1) → utf p (a ++ 47 :: b) = (utf p a && utf [] b)
  | [], b, [], _ => by rw [List.nil_append, utf_nil]; rfl
  | [], b, q :: p, h => by
    rw [List.nil_append, utf_cons, utf_short]
    have := h q List.mem_cons_self
    have e : (47 : UInt8).toNat = 47 := rfl
    rw [e, decide_eq_false (by omega)]; rfl
  | c :: a, b, [], _ => by
    rw [List.cons_append, utf_nil, utf_nil]
    cases hn : need c.toNat with
    | none => rfl
    | some p => exact utf_cut a b p (need_high hn)
  | c :: a, b, q :: p, h => by
    rw [List.cons_append, utf_cons, utf_cons, utf_cut a b p (fun x hx => h x (List.mem_cons_of_mem _ hx)), Bool.and_assoc, Bool.and_assoc, Bool.and_assoc]

theorem utf_levels : ∀ (L : List (List UInt8)), L ≠ [] → (utf [] (Lib.join L [47]) = L.all (utf []))
  | [], h => absurd rfl h
  | [x], _ => by rw [Lib.join_one]; simp
  | x :: y :: r, _ => by
    have e : Lib.join (x :: y :: r) [47] = x ++ 47 :: Lib.join (y :: r) [47] := by
      rw [Lib.join_cons, Lib.join_cons]; simp [Lib.joinTail]
    rw [e, utf_cut x _ [] (fun _ h => by cases h), utf_levels (y :: r) (by simp)]
    rfl

theorem part_len (L : List (List UInt8)) : ∀ (y : List UInt8), y ∈ L → y.length ≤ (Lib.join L [47]).length := by
  induction L with
  | nil => intro y hy; simp at hy
  | cons z r ih =>
    intro y hy
    rcases List.mem_cons.1 hy with rfl | hy
    · rw [Lib.join_cons]; simp
    · cases r with
      | nil => simp at hy
      | cons z2 r2 =>
        have := ih y hy
        rw [Lib.join_cons] at this ⊢
        simp only [Lib.joinTail, List.map_cons, List.flatten_cons, List.length_append, List.length_cons, List.length_nil] at this ⊢
        omega

/-- The levels of a text are texts. -/
theorem isText_level {s x : ByteArray} (h : isText s = true) (hx : x ∈ levels s) : isText x = true := by
  unfold isText at h ⊢
  rw [Bool.and_eq_true, decide_eq_true_eq] at h ⊢
  have hm : x.data.toList ∈ (levels s).map (·.data.toList) := List.mem_map_of_mem hx
  have hj := join_levels s
  constructor
  · have := part_len _ _ hm
    rw [hj, ← size_eq, ← size_eq] at this
    omega
  · have hne : (levels s).map (·.data.toList) ≠ [] := by intro e; rw [e] at hm; cases hm
    have := utf_levels _ hne
    rw [hj, h.2] at this
    exact List.all_eq_true.1 this.symm _ hm

theorem chkF_zero {s : ByteArray} (h : chkF s = 0) : s.size ≠ 0 ∧ isText s = true ∧ badLv (levels s) = false := by
  unfold chkF textE at h
  by_cases h0 : s.size = 0
  · rw [if_pos h0] at h; simp at h
  · rw [if_neg h0] at h
    cases ht : isText s with
    | false => rw [ht] at h; simp at h
    | true =>
      rw [ht] at h
      cases hb : badLv (levels s) with
      | false => exact ⟨h0, rfl, rfl⟩
      | true => rw [hb] at h; simp at h

theorem chk_zero {s : ByteArray} : chk s = 0 ↔ s.size ≠ 0 ∧ isText s = true ∧ sign s = false := by
  unfold chk textE
  by_cases h0 : s.size = 0
  · simp [h0]
  · cases ht : isText s <;> cases hs : sign s <;> simp [h0]

/-- In a filter the first byte is a sign just where the first level is that sign. -/
theorem first_sign {f x : ByteArray} {r : List ByteArray} (h : chkF f = 0) (hx : levels f = x :: r) (hp : 0 < f.size) (k : UInt8) (hk : k = 43 ∨ k = 35) :
    x.data.toList = [k] ↔ f[0] = k := by
  have hb := (chkF_zero h).2.2
  have hsp := levels_split f
  rw [hx] at hb hsp
  have hd := drop_get f 0 hp
  rw [List.drop_zero] at hd
  have hg : f.get! 0 = f[0] := by
    have h1 := get_toList f 0 hp
    have hl : 0 < f.data.toList.length := by simpa using hp
    rw [List.getElem?_eq_getElem hl] at h1
    exact (Option.some.inj h1).symm
  rw [hg] at hd
  rw [hd, split_cons, List.map_cons] at hsp
  have hk47 : k ≠ 47 := by rcases hk with rfl | rfl <;> decide
  have hks : ∀ t, signL (k :: t) = true := by intro t; rcases hk with rfl | rfl <;> simp [signL]
  by_cases h47 : f[0] = 47
  · rw [if_pos h47] at hsp
    injection hsp with h1 _
    rw [h1, h47]
    constructor
    · intro e; cases e
    · intro e; exact absurd e.symm hk47
  · rw [if_neg h47] at hsp
    cases hs : split (f.data.toList.drop (0 + 1)) with
    | nil => exact absurd hs (split_ne _)
    | cons y t =>
      rw [hs] at hsp
      injection hsp with h1 _
      rw [h1]
      constructor
      · intro e; injection e
      · intro e
        rw [e] at h1 ⊢
        have hsz : ¬ (1 < x.size) := by
          intro hlt
          have : badLv (x :: r) = true := by
            show ((sign x && decide (1 < x.size)) || _ || _) = true
            have : sign x = true := by unfold sign; rw [h1]; exact hks y
            rw [this, decide_eq_true hlt]; rfl
          rw [this] at hb; cases hb
        rw [size_eq, h1, List.length_cons] at hsz
        rw [List.eq_nil_of_length_eq_zero (show y.length = 0 by omega)]

theorem goesL_hash {f : ByteArray} {F T : List ByteArray} (h : f.data.toList = [35]) : goesL (f :: F) T = true := by unfold goesL; rw [if_pos h]
theorem goesL_short {f : ByteArray} {F : List ByteArray} (h : ¬ f.data.toList = [35]) : goesL (f :: F) [] = false := by unfold goesL; rw [if_neg h]
theorem goesL_on {f x : ByteArray} {F T : List ByteArray} (h : ¬ f.data.toList = [35]) (h2 : f.data.toList = [43] ∨ f = x) : goesL (f :: F) (x :: T) = goesL F T := by rw [goesL]; rw [if_neg h, if_pos h2]
theorem goesL_off {f x : ByteArray} {F T : List ByteArray} (h : ¬ f.data.toList = [35]) (h2 : ¬ f.data.toList = [43]) (h3 : ¬ f = x) : goesL (f :: F) (x :: T) = false := by
  rw [goesL]; rw [if_neg h, if_neg (by rintro (e | e); exact h2 e; exact h3 e)]

end Go.Proofs.Tp

/- Proved here: the contract of wire.Check. -/
namespace Go.Proofs.Ytppndkbicekkjaa
open Go.RowKit Go.Proofs.Tp

set_option maxHeartbeats 400000 in
set_option maxRecDepth 100000 in
/-- 'wire.Check': its second result is 0 just where the text is well-formed. -/
theorem wireCheck_any (s : ByteArray) (w : World) (hs : s.size ≤ 1000000000) :
    Calls Try.prog 96 #[.string s] w fun e w' => ∃ n c : Int, e = .returned (.tuple #[.int .i64 n, .int .i64 c]) ∧ (c == 0) = isText s ∧ Below w.heap.size w w' := by
  by_cases hl : s.size ≤ 65535
  · go_enter Try.func96, Try.ntmps96
    go_wp2
    go_loopw [] (fun wr => ∃ pos, pos ≤ s.size ∧ wr.heap[w.heap.size]? = some (.stringIter s pos) ∧ utf [] (s.data.toList.drop pos) = utf [] s.data.toList ∧ Below w.heap.size w wr) (fun wr => s.size - wr.iterPos w.heap.size)
    case atStart => exact ⟨0, Nat.zero_le _, by simp [World.iter_heap], rfl, (Below.refl _ _).alloc (Nat.le_refl _) _⟩
    case round =>
      obtain ⟨pos, hpos, hit, hu, hbel⟩ := hrel
      have HU := Lib.hid hu
      clear hu
      have HIP := Lib.hid (iterPos_of hit)
      by_cases hp : pos < s.size
      · have hnx : ∀ ty, (Instr.next (.pointer (some ⟨w.heap.size, 0, none⟩)) true ty).run Try.prog wr = _ := fun ty => Lib.run_next_any_at wr _ s pos ty hit hp
        have hdu := decode_utf s pos hp
        have hdb := (decode_byte s pos hp 47 (by decide)).2
        have hbel' := Lib.below_iterAt hbel (Nat.le_refl _) s (pos + (Utf8.decode s pos).2)
        have hit' := Lib.iterAt_heap wr w.heap.size s pos (pos + (Utf8.decode s pos).2) hit
        generalize wr.iterAt w.heap.size s (pos + (Utf8.decode s pos).2) = wi at *
        have HIT := Lib.hid hit'
        clear hit hit'
        by_cases z : (Utf8.decode s pos).1 = 0
        · have hz : (((Utf8.decode s pos).1 : Int) == 0) = true := by rw [z]; rfl
          have hf : utf [] s.data.toList = false := by
            rcases hdu with h | h
            · rw [← HU.out]; exact h.2
            · exact absurd z h.1
          have HF := Lib.hid hf
          clear z hdu hf
          go_wp2
          go_ret2
          exact ⟨_, _, rfl, by simp [isText, HF.out], hbel'⟩
        · have hz : (((Utf8.decode s pos).1 : Int) == 0) = false := by rw [beq_eq_false_iff_ne]; omega
          by_cases z2 : (Utf8.decode s pos).1 = 65533
          · have hz2 : (((Utf8.decode s pos).1 : Int) == 65533) = true := by rw [z2]; rfl
            have hpre := decode_fffd s pos hp z2
            have hext : List.take (s.size - pos) (List.drop pos s.data.toList) = s.data.toList.drop pos := List.take_of_length_le (by simp)
            by_cases z3 : (Utf8.decode s pos).2 = 1
            · have hP : Lib.hasPrefix (List.take (s.size - pos) (List.drop pos s.data.toList)) [239, 191, 189] = false := by rw [hext, hpre, z3]; rfl
              have hf : utf [] s.data.toList = false := by
                rcases hdu with h | h
                · rw [← HU.out]; exact h.2
                · exact absurd ⟨z2, z3⟩ h.2.1
              have HF := Lib.hid hf
              clear z z2 z3 hdu hf hpre hext
              go_wp2_with (go_at_call 104; refine (Try.strings_HasPrefix _ _ _).mono ?_; rintro e w' ⟨rfl, rfl⟩)
              go_ret2
              exact ⟨_, _, rfl, by simp [isText, HF.out], hbel'⟩
            · have hP : Lib.hasPrefix (List.take (s.size - pos) (List.drop pos s.data.toList)) [239, 191, 189] = true := by rw [hext, hpre, decide_eq_false z3]; rfl
              have hf : utf [] (s.data.toList.drop (pos + (Utf8.decode s pos).2)) = utf [] s.data.toList := by
                rw [← HU.out]
                rcases hdu with h | h
                · rcases h.1 with h | h
                  · exact absurd h z
                  · exact absurd h.2 z3
                · exact h.2.2.symm
              have HF := Lib.hid hf
              clear z z2 z3 hdu hf hpre hext
              go_wp2_with (go_at_call 104; refine (Try.strings_HasPrefix _ _ _).mono ?_; rintro e w' ⟨rfl, rfl⟩)
              go_roundw
              case rel => exact ⟨_, hdb.2, HIT.out, HF.out, hbel'⟩
              case measure => rw [iterPos_of HIT.out, HIP.out]; omega
          · have hz2 : (((Utf8.decode s pos).1 : Int) == 65533) = false := by rw [beq_eq_false_iff_ne]; omega
            have hf : utf [] (s.data.toList.drop (pos + (Utf8.decode s pos).2)) = utf [] s.data.toList := by
              rw [← HU.out]
              rcases hdu with h | h
              · rcases h.1 with h | h
                · exact absurd h z
                · exact absurd h.1 z2
              · exact h.2.2.symm
            have HF := Lib.hid hf
            clear z z2 hdu hf
            go_wp2
            go_roundw
            case rel => exact ⟨_, hdb.2, HIT.out, HF.out, hbel'⟩
            case measure => rw [iterPos_of HIT.out, HIP.out]; omega
      · have hnx : ∀ ty, (Instr.next (.pointer (some ⟨w.heap.size, 0, none⟩)) true ty).run Try.prog wr = _ := fun ty => Lib.run_next_end_at wr _ s pos ty hit hp
        have hf : utf [] s.data.toList = true := by rw [← HU.out, drop_end s pos hp]; rfl
        have HF := Lib.hid hf
        clear hf
        go_wp2
        go_ret2
        exact ⟨_, _, rfl, by simp [isText, HF.out, hl], hbel⟩
  · go_enter Try.func96, Try.ntmps96
    go_wp2
    go_ret2
    exact ⟨_, _, rfl, by simp [isText, hl], Below.refl _ _⟩
end Go.Proofs.Ytppndkbicekkjaa

/- Proved here: the contract of topic.Levels: it tells the levels of a text; below the heap's end nothing turns (texts of at most 10^9 bytes). -/
namespace Go.Proofs.Ytppndkbicekkjaa
open Go.RowKit Go.Proofs.Tp

theorem Try.info9 : (Try.prog.info? 9).map (fun i => (i.zero, i.size, i.bytes)) = some (some (.string ByteArray.empty), 1, 16) := by kernel_rfl

set_option maxHeartbeats 400000 in
set_option maxRecDepth 100000 in
theorem levels_any (s : ByteArray) (w : World) (hs : s.size ≤ 1000000000) :
    Calls Try.prog 74 #[.string s] w fun e w' => ∃ v, e = .returned v ∧ w'.ownsRow (w.heap.size + 1) 9 1 v (levels s).length ((levels s).map Value.string) ∧ Below w.heap.size w w' := by
  obtain ⟨i0, hi, hz0, hz1, hz2⟩ := info_parts Try.info9
  go_enter Try.func74, Try.ntmps74
  go_wp2
  go_loopw [3, 4] (fun v f wr => ∃ pos, pos ≤ s.size ∧ wr.heap[w.heap.size]? = some (.stringIter s pos) ∧ f = .int .i64 ((lvTo s pos).2 : Nat) ∧
      wr.ownsRow (w.heap.size + 1) 9 1 v (lvTo s pos).1.length ((lvTo s pos).1.map Value.string) ∧ Below w.heap.size w wr) (fun _ _ wr => s.size - wr.iterPos w.heap.size)
  case atStart => exact ⟨0, Nat.zero_le _, by simp [World.iter_heap], rfl, World.ownsRow_nil _ _ _ _, (Below.refl _ _).alloc (Nat.le_refl _) _⟩
  case round =>
    obtain ⟨pos, hpos, hit, rfl, hown, hbel⟩ := hrel
    have hle := lvTo_le s pos
    have HIP := Lib.hid (iterPos_of hit)
    have hsz : w.heap.size < wr.heap.size := (Array.getElem?_eq_some_iff.1 hit).1
    by_cases hp : pos < s.size
    · have hnx : ∀ ty, (Instr.next (.pointer (some ⟨w.heap.size, 0, none⟩)) true ty).run Try.prog wr = _ := fun ty => Lib.run_next_any_at wr _ s pos ty hit hp
      have hds := decode_byte s pos hp 47 (by decide)
      rw [show (47 : UInt8).toNat = 47 from rfl] at hds
      have hown' := ownsRow_iterAt hown (Nat.lt_succ_self w.heap.size) s (pos + (Utf8.decode s pos).2)
      have hbel' := Lib.below_iterAt hbel (Nat.le_refl _) s (pos + (Utf8.decode s pos).2)
      have hit' := Lib.iterAt_heap wr w.heap.size s pos (pos + (Utf8.decode s pos).2) hit
      have hsz' := Lib.iterAt_size wr w.heap.size s (pos + (Utf8.decode s pos).2)
      generalize wr.iterAt w.heap.size s (pos + (Utf8.decode s pos).2) = wi at *
      have HIT := Lib.hid hit'
      have HSZ := Lib.hid hsz'
      rw [← hsz'] at hsz
      clear hit hown hbel hit' hsz'
      obtain ⟨⟨hc, hw1, h47⟩ | ⟨hc, hno⟩, hw, hend⟩ := hds
      · have hc' : (((Utf8.decode s pos).1 : Int) == 47) = true := by rw [hc]; rfl
        have hto : lvTo s (pos + 1) = ((lvTo s pos).1 ++ [s.extract (lvTo s pos).2 pos], pos + 1) := by rw [lvTo_succ]; unfold lvStep; rw [if_pos h47]
        have HTO := Lib.hid hto
        have HW1 := Lib.hid hw1
        clear hto hw1 h47 hc
        go_wp2_with (at_builtin; refine wpList_append_own _ rfl _ _ 43 rfl (w.heap.size + 1) 9 i0 (.string ByteArray.empty) 1 16 Try.underlying43 hi hz0 hz1 hz2 rfl (by decide) _ _ _ rfl (hown'.alloc _) ⟨wi.heap.size, 0, none⟩ 1 1 [.string (s.extract (lvTo s pos).2 pos)] rfl rfl ?c1 ?c2 ?c3 ?c4 ?c5 ?_)
        case c1 => exact cell_one_new _ _ _
        case c2 => simp [Value.oneCell']
        case c3 => unfold maxLen; omega
        case c4 => omega
        case c5 => simp; omega
        intro v' w1 hown1 hgrow _
        go_wp2
        go_roundw
        case rel =>
          have h1 := hown'.alloc (.cells #[.string (s.extract (lvTo s pos).2 pos)] 9)
          refine ⟨pos + 1, by omega, ?_, ?_, ?_, ?_⟩
          · rw [hgrow.block _ (by simp; omega) (fun e => by have := (h1.lt _ e.symm).1; omega), Below.heap_alloc _ _ _ hsz, HIT.out, HW1.out]
          · rw [HTO.out]; simp
          · rw [HTO.out]; simpa using hown1
          · exact (hbel'.alloc (by omega) _).grown hgrow (by simp; omega) (fun k e => by have := (h1.lt _ e).1; omega)
        case measure =>
          have h1 := hown'.alloc (.cells #[.string (s.extract (lvTo s pos).2 pos)] 9)
          rw [iterPos_of (p := pos + 1) (s := s) (by rw [hgrow.block _ (by simp; omega) (fun e => by have := (h1.lt _ e.symm).1; omega), Below.heap_alloc _ _ _ hsz, HIT.out, HW1.out]), HIP.out]
          omega
      · have hc' : (((Utf8.decode s pos).1 : Int) == 47) = false := by rw [beq_eq_false_iff_ne]; omega
        have hto := lvTo_jump s pos _ hno
        have HTO := Lib.hid hto
        clear hto hno hc
        go_wp2
        go_roundw
        case rel => exact ⟨pos + (Utf8.decode s pos).2, hend, HIT.out, by rw [HTO.out], by rw [HTO.out]; exact hown', hbel'⟩
        case measure =>
          rw [iterPos_of HIT.out, HIP.out]
          omega
    · have hnx : ∀ ty, (Instr.next (.pointer (some ⟨w.heap.size, 0, none⟩)) true ty).run Try.prog wr = _ := fun ty => Lib.run_next_end_at wr _ s pos ty hit hp
      obtain rfl : pos = s.size := by omega
      go_wp2_with (at_builtin; refine wpList_append_own _ rfl _ _ 43 rfl (w.heap.size + 1) 9 i0 (.string ByteArray.empty) 1 16 Try.underlying43 hi hz0 hz1 hz2 rfl (by decide) _ _ _ rfl (hown.alloc _) ⟨wr.heap.size, 0, none⟩ 1 1 [.string (s.extract (lvTo s s.size).2 s.size)] rfl rfl ?d1 ?d2 ?d3 ?d4 ?d5 ?_)
      case d1 => exact cell_one_new _ _ _
      case d2 => simp [Value.oneCell']
      case d3 => unfold maxLen; omega
      case d4 => omega
      case d5 => simp; omega
      intro v' w1 hown1 hgrow _
      have h1 := hown.alloc (.cells #[.string (s.extract (lvTo s s.size).2 s.size)] 9)
      go_wp2
      go_ret
      refine ⟨_, rfl, ?_, (hbel.alloc (by omega) _).grown hgrow (by simp; omega) (fun k e => by have := (h1.lt _ e).1; omega)⟩
      simpa [levels] using hown1
end Go.Proofs.Ytppndkbicekkjaa

/- Proved here: the contract of topic.text. -/
namespace Go.Proofs.Ytppndkbicekkjaa
open Go.RowKit Go.Proofs.Tp

theorem ret_int {k : IntKind} {a b : Int} (h : a = b) : Ending.returned (.int k a) = .returned (.int k b) := by rw [h]

theorem isEmpty_of (s : ByteArray) (h : s.size = 0) : s.toList.isEmpty = true := by
  rw [Lib.toList_data, List.isEmpty_iff, ← List.length_eq_zero_iff]; simpa using h
theorem isEmpty_no (s : ByteArray) (h : s.size ≠ 0) : s.toList.isEmpty = false := by
  rw [Lib.toList_data, ← Bool.not_eq_true, List.isEmpty_iff, ← List.length_eq_zero_iff]; simpa using h

set_option maxHeartbeats 400000 in
theorem text_any (s : ByteArray) (w : World) (hs : s.size ≤ 1000000000) :
    Calls Try.prog 73 #[.string s] w fun e w' => e = .returned (.int .i64 (textE s)) ∧ Below w.heap.size w w' := by
  by_cases h0 : s.size = 0
  · have hd := isEmpty_of s h0
    have HE := Lib.hid h0
    clear h0
    go_enter Try.func73, Try.ntmps73
    go_wp2
    go_ret
    exact ⟨ret_int (by simp [textE, HE.out]), Below.refl _ _⟩
  · have hd := isEmpty_no s h0
    have HE := Lib.hid h0
    clear h0
    go_enter Try.func73, Try.ntmps73
    go_wp2_with fail
    refine (wireCheck_any s _ hs).mono ?_
    rintro e w1 ⟨n, c, rfl, hc, hb⟩
    cases ht : isText s
    · rw [ht] at hc
      have HT := Lib.hid ht
      clear ht
      go_wp2
      go_ret
      exact ⟨ret_int (by simp [textE, HE.out, HT.out]), hb⟩
    · rw [ht] at hc
      have HT := Lib.hid ht
      clear ht
      go_wp2
      go_ret
      exact ⟨ret_int (by simp [textE, HE.out, HT.out]), hb⟩

end Go.Proofs.Ytppndkbicekkjaa

/- Proved here: the contract of topic.CheckFilter. -/
namespace Go.Proofs.Ytppndkbicekkjaa
open Go.RowKit Go.Proofs.Tp

theorem badLv_cons (x : ByteArray) (r : List ByteArray) : badLv (x :: r) = ((sign x && decide (1 < x.size)) || (decide (x.data.toList = [35]) && !r.isEmpty) || badLv r) := rfl

/-- A level with a sign at 'pos', told by the decoding. -/
theorem level_sign (x : ByteArray) (pos : Nat) (h : pos < x.size) (h1 : (Utf8.decode x pos).1 = 43 ∨ (Utf8.decode x pos).1 = 35) (hle : x.size ≤ 1) :
    x.data.toList = [35] ↔ (Utf8.decode x pos).1 = 35 := by
  obtain rfl : pos = 0 := by omega
  have hl : x.data.toList.length = 1 := by simp; omega
  obtain ⟨c, hc⟩ : ∃ c, x.data.toList = [c] := by
    match hx : x.data.toList, hl with
    | [c], _ => exact ⟨c, rfl⟩
  have hd := (decode_byte x 0 h 35 (by decide)).1
  rw [hc]
  constructor
  · intro e
    rw [e] at hc
    rw [hc] at hd
    exact (hd.resolve_right (fun y => y.2 0 (by have := (decode_byte x 0 h 35 (by decide)).2.1; omega) rfl)).1
  · intro e
    have := (hd.resolve_right (fun y => y.1 e)).2.2
    rw [hc] at this
    simpa using this

theorem badLv_keep (x : ByteArray) (r : List ByteArray) (h1 : sign x = true → x.size ≤ 1) (h2 : x.data.toList = [35] → r = []) : badLv (x :: r) = badLv r := by
  rw [badLv_cons]
  have a : (sign x && decide (1 < x.size)) = false := by
    cases hs : sign x
    · rfl
    · rw [decide_eq_false (by have := h1 hs; omega)]; rfl
  have b : (decide (x.data.toList = [35]) && !r.isEmpty) = false := by
    by_cases e : x.data.toList = [35]
    · rw [h2 e]; simp
    · rw [decide_eq_false e]; rfl
  rw [a, b]; rfl

theorem badLv_stop (x : ByteArray) (r : List ByteArray) (h : (sign x = true ∧ 1 < x.size) ∨ (x.data.toList = [35] ∧ r ≠ [])) : badLv (x :: r) = true := by
  rw [badLv_cons]
  rcases h with ⟨h1, h2⟩ | ⟨h1, h2⟩
  · rw [h1, decide_eq_true h2]; rfl
  · rw [decide_eq_true h1]
    have : r.isEmpty = false := by cases r with | nil => exact absurd rfl h2 | cons _ _ => rfl
    rw [this]; simp

set_option maxHeartbeats 1000000 in
set_option maxRecDepth 1000000 in
theorem checkFilter_walk (s : ByteArray) (w : World) (hs : s.size ≤ 1000000000) (ht : textE s = 0) :
    Calls Try.prog 45 #[.string s] w fun e w' => e = .returned (.int .i64 (chkF s)) ∧ Below w.heap.size w w' := by
  have hc : (textE s != 0) = false := by rw [ht]; rfl
  have HT := Lib.hid ht
  clear ht
  go_enter Try.func45, Try.ntmps45
  go_wp2_with fail
  go_step3
  go_wp2_with fail
  refine (text_any s _ hs).mono ?_
  rintro e w1 ⟨rfl, hb⟩
  go_wp2_with fail
  refine (levels_any s _ hs).mono ?_
  rintro e w2 ⟨v, rfl, hown, hb2⟩
  have hlen : (levels s).length ≤ 1000000001 := by
    have := (lvTo_le s s.size).2
    simp only [levels, List.length_append, List.length_cons, List.length_nil]; omega
  have hpos : 0 < (levels s).length := by simp [levels]
  have hfin : chkF s = if badLv (levels s) then 52 else 0 := by simp [chkF, HT.out]
  have HF := Lib.hid hfin
  clear hfin
  have hst := StrsAt.of_owns hown
  clear hown
  obtain ⟨b, off, cap, rfl, hlc, hcm, hbw, hcell⟩ := hst.open hpos
  clear hst
  generalize levels s = L at *
  obtain ⟨n, hn⟩ : ∃ n, L.length = n := ⟨_, rfl⟩
  have HN := Lib.hid hn
  rw [hn] at hlen hpos hlc ⊢
  have HC := Lib.hid hcell
  have HB := Lib.hid (hb.trans (hb2.mono hb.size))
  clear hcell hn hb hb2
  go_wp2_with fail
  go_step3
  go_wp2_with fail
  go_loopg [18] n (fun g i wr => ∃ k, k + g = n ∧ i = .int .i64 (k : Nat) ∧ Aside (badLv (L.drop k) = badLv L) ∧ Below w2.heap.size w2 wr)
  case atStart => exact ⟨0, by omega, rfl, rfl, Below.refl _ _⟩
  case round =>
    obtain ⟨k, hkg, rfl, HI, hbx⟩ := hrel
    have HKG := Lib.hid hkg
    cases gk with
    | zero =>
      have hkz : ¬ ((k : Int) < (n : Int)) := by omega
      clear hkg
      go_wp2_with fail
      go_ret
      exact ⟨ret_int (by rw [HF.out, ← HI.out, List.drop_eq_nil_of_le (by rw [HN.out]; have := HKG.out; omega)]; rfl), HB.out.trans (hbx.mono HB.out.size)⟩
    | succ g =>
      have hkz : (k : Int) < (n : Int) := by omega
      have hkn : k < n := by omega
      clear hkg
      obtain ⟨x, hx⟩ : ∃ x, L[k]? = some x := ⟨L[k]'(by rw [HN.out]; exact hkn), List.getElem?_eq_getElem _⟩
      have hcx : wr.cell? ⟨b, off + k, none⟩ = some (.string x) := (hbx.cell (p := ⟨b, off + k, none⟩) hbw).trans (HC.out k x hx)
      have hdrop : L.drop k = x :: L.drop (k + 1) := by
        obtain ⟨hlt, he⟩ := List.getElem?_eq_some_iff.1 hx
        rw [List.drop_eq_getElem_cons hlt, he]
      have HX := Lib.hid hx
      have HD := Lib.hid hdrop
      clear hx hdrop
      obtain ⟨wo, rfl⟩ : ∃ wo : World, wo = wr := ⟨_, rfl⟩
      go_wp2_with fail
      go_loopg [] x.size (fun g2 wi => ∃ pos, pos + g2 = x.size ∧ wi.heap[wo.heap.size]? = some (.stringIter x pos) ∧ Aside (signL (x.data.toList.drop pos) = sign x) ∧ Below wo.heap.size wo wi)
      case atStart => exact ⟨0, by omega, by simp [World.iter_heap], rfl, (Below.refl _ _).alloc (Nat.le_refl _) _⟩
      case round =>
        obtain ⟨pos, hpg, hit, HS, hby⟩ := hrel
        have HPG := Lib.hid hpg
        by_cases hp : pos < x.size
        · have hnx : ∀ ty, (Instr.next (.pointer (some ⟨wo.heap.size, 0, none⟩)) true ty).run Try.prog wr = _ := fun ty => Lib.run_next_any_at wr _ x pos ty hit hp
          have hdb := (decode_byte x pos hp 47 (by decide)).2
          have hls := level_sign x pos hp
          have hsh := sign_here x pos hp
          have hss := sign_step x pos hp
          have hby' := Lib.below_iterAt hby (Nat.le_refl _) x (pos + (Utf8.decode x pos).2)
          have hit' := Lib.iterAt_heap wr wo.heap.size x pos (pos + (Utf8.decode x pos).2) hit
          generalize wr.iterAt wo.heap.size x (pos + (Utf8.decode x pos).2) = wi at *
          have HIT := Lib.hid hit'
          have HDB := Lib.hid hdb
          clear hit hit' hpg hdb hby
          have hbz : Below w2.heap.size w2 wi := hbx.trans (hby'.mono hbx.size)
          by_cases z : (Utf8.decode x pos).1 = 43 ∨ (Utf8.decode x pos).1 = 35
          · have hsx : sign x = true := HS.out.symm.trans (hsh z)
            by_cases hl : 1 < x.size
            · have hlI : (1 : Int) < (x.size : Int) := by omega
              have hfin : badLv L = true := by rw [← HI.out, HD.out]; exact badLv_stop _ _ (.inl ⟨hsx, hl⟩)
              have HFIN := Lib.hid hfin
              clear hfin hls hsh hss hsx hl
              rcases z with z | z
              · have z1 : (((Utf8.decode x pos).1 : Int) != 43) = false := by rw [z]; rfl
                clear z
                go_wp2
                repeat (first | rw [Exit.noGoto_ret] | simp only [Exit.inBlock] | simp only [Exit.then])
                go_ret
                exact ⟨ret_int (by rw [HF.out, HFIN.out]; rfl), HB.out.trans (hbz.mono HB.out.size)⟩
              · have z1 : (((Utf8.decode x pos).1 : Int) != 43) = true := by rw [z]; rfl
                have z2 : (((Utf8.decode x pos).1 : Int) != 35) = false := by rw [z]; rfl
                clear z
                go_wp2
                repeat (first | rw [Exit.noGoto_ret] | simp only [Exit.inBlock] | simp only [Exit.then])
                go_ret
                exact ⟨ret_int (by rw [HF.out, HFIN.out]; rfl), HB.out.trans (hbz.mono HB.out.size)⟩
            · have hlI : ¬ ((1 : Int) < (x.size : Int)) := by omega
              have hls' := hls z (by omega)
              rcases z with z | z
              · have z1 : (((Utf8.decode x pos).1 : Int) != 43) = false := by rw [z]; rfl
                have z3 : (((Utf8.decode x pos).1 : Int) == 35) = false := by rw [z]; rfl
                have hk : badLv (x :: L.drop (k + 1)) = badLv (L.drop (k + 1)) := badLv_keep _ _ (fun _ => by omega) (fun e => by have := hls'.1 e; omega)
                have HK := Lib.hid hk
                clear z hls hsh hss hls' hk hl
                go_wp2
                go_roundg g
                case measure => omega
                case rel => exact ⟨k + 1, by have := HKG.out; omega, by go_num, by show _ = _; rw [← HI.out, HD.out, HK.out], hbz⟩
              · have z1 : (((Utf8.decode x pos).1 : Int) != 43) = true := by rw [z]; rfl
                have z2 : (((Utf8.decode x pos).1 : Int) != 35) = false := by rw [z]; rfl
                have z3 : (((Utf8.decode x pos).1 : Int) == 35) = true := by rw [z]; rfl
                have hx35 := hls'.2 z
                by_cases hkl : k + 1 < n
                · have hklI : (k : Int) < (n : Int) - 1 := by omega
                  have hklI2 : (k : Int) + 1 < (n : Int) := by omega
                  have hr : L.drop (k + 1) ≠ [] := by
                    rw [Ne, List.drop_eq_nil_iff, HN.out]; omega
                  have hfin : badLv L = true := by rw [← HI.out, HD.out]; exact badLv_stop _ _ (.inr ⟨hx35, hr⟩)
                  have HFIN := Lib.hid hfin
                  clear hfin hls hsh hss hsx hl hr hx35 hls' z hkl
                  go_wp2
                  repeat (first | rw [Exit.noGoto_ret] | simp only [Exit.inBlock] | simp only [Exit.then])
                  go_ret
                  exact ⟨ret_int (by rw [HF.out, HFIN.out]; rfl), HB.out.trans (hbz.mono HB.out.size)⟩
                · have hklI : ¬ ((k : Int) < (n : Int) - 1) := by omega
                  have hklI2 : ¬ ((k : Int) + 1 < (n : Int)) := by omega
                  have hk : badLv (x :: L.drop (k + 1)) = badLv (L.drop (k + 1)) := badLv_keep _ _ (fun _ => by omega) (fun e => by rw [List.drop_eq_nil_iff, HN.out]; omega)
                  have HK := Lib.hid hk
                  clear z hls hsh hss hls' hk hl hx35 hkl
                  go_wp2
                  go_roundg g
                  case measure => omega
                  case rel => exact ⟨k + 1, by have := HKG.out; omega, by go_num, by show _ = _; rw [← HI.out, HD.out, HK.out], hbz⟩
          · have z1 : (((Utf8.decode x pos).1 : Int) != 43) = true := by rw [bne_iff_ne]; intro e; exact z (.inl (by omega))
            have z2 : (((Utf8.decode x pos).1 : Int) != 35) = true := by rw [bne_iff_ne]; intro e; exact z (.inr (by omega))
            have hs2 := hss (fun e => z (.inl e)) (fun e => z (.inr e))
            have HS2 := Lib.hid hs2
            clear hls hsh hss hs2 z
            go_wp2
            go_roundg (x.size - (pos + (Utf8.decode x pos).2))
            case measure => have := HDB.out; have := HPG.out; omega
            case rel => exact ⟨pos + (Utf8.decode x pos).2, by have := HDB.out; omega, HIT.out, by show _ = _; rw [← HS.out, HS2.out], hby'⟩
        · have hnx : ∀ ty, (Instr.next (.pointer (some ⟨wo.heap.size, 0, none⟩)) true ty).run Try.prog wr = _ := fun ty => Lib.run_next_end_at wr _ x pos ty hit hp
          have hsf : sign x = false := by rw [← HS.out, drop_end x pos hp]; rfl
          have hk : badLv (x :: L.drop (k + 1)) = badLv (L.drop (k + 1)) := badLv_keep _ _ (fun e => by rw [hsf] at e; cases e) (fun e => by unfold sign at hsf; rw [e] at hsf; cases hsf)
          have HK := Lib.hid hk
          have hbz : Below w2.heap.size w2 wr := hbx.trans (hby.mono hbx.size)
          clear hk hsf hpg
          go_wp2
          go_roundg g
          case measure => omega
          case rel => exact ⟨k + 1, by have := HKG.out; omega, by go_num, by show _ = _; rw [← HI.out, HD.out, HK.out], hbz⟩

set_option maxHeartbeats 400000 in
theorem checkFilter_any (s : ByteArray) (w : World) (hs : s.size ≤ 1000000000) :
    Calls Try.prog 45 #[.string s] w fun e w' => e = .returned (.int .i64 (chkF s)) ∧ Below w.heap.size w w' := by
  by_cases ht : textE s = 0
  · exact checkFilter_walk s w hs ht
  · have hc : (textE s != 0) = true := by rw [bne_iff_ne]; exact ht
    have hfin : chkF s = textE s := by simp [chkF, ht]
    have HF := Lib.hid hfin
    have hn := textE_nonneg s
    clear ht hfin
    go_enter Try.func45, Try.ntmps45
    go_wp2_with fail
    go_step3
    go_wp2_with fail
    refine (text_any s _ hs).mono ?_
    rintro e w1 ⟨rfl, hb⟩
    go_wp2_with fail
    repeat (first | rw [Exit.noGoto_ret] | simp only [Exit.inBlock] | simp only [Exit.then])
    go_ret
    exact ⟨ret_int HF.out.symm, hb⟩

end Go.Proofs.Ytppndkbicekkjaa

/- Of the comparing of texts: cmp.Compare walked, and what levels measure. -/
namespace Go.Proofs.Ytppndkbicekkjaa
open Go.RowKit Go.Proofs.Tp

theorem ba_ext {x y : ByteArray} (h : x.data.toList = y.data.toList) : x = y := by
  obtain ⟨⟨a⟩⟩ := x; obtain ⟨⟨b⟩⟩ := y; simp only at h; rw [h]

set_option maxHeartbeats 400000 in
theorem cmpStr_any (x y : ByteArray) (w : World) :
    Calls Try.prog 98 #[.string x, .string y] w fun e w' => e = .returned (.int .i64 (cmpB x y)) ∧ w = w' := by
  by_cases h1 : x.data.toList < y.data.toList
  · have b1 : Op.bytesLess x.toList y.toList = true := by rw [bytesLess_eq, Lib.toList_data, Lib.toList_data]; simpa using h1
    have hf : cmpB x y = -1 := by unfold cmpB; rw [if_pos h1]
    have HF := Lib.hid hf
    clear hf h1
    go_enter Try.func98, Try.ntmps98
    go_wp2
    go_ret
    exact ⟨ret_int HF.out.symm, rfl⟩
  · have b1 : Op.bytesLess x.toList y.toList = false := by rw [bytesLess_eq, Lib.toList_data, Lib.toList_data]; simpa using h1
    by_cases h2 : y.data.toList < x.data.toList
    · have b2 : (x.toList == y.toList) = false := by
        rw [Lib.toList_data, Lib.toList_data, beq_eq_false_iff_ne]; intro e; rw [e] at h2; exact absurd h2 (List.lt_irrefl _)
      have hf : cmpB x y = 1 := by unfold cmpB; rw [if_neg h1, if_pos h2]
      have HF := Lib.hid hf
      clear hf h1 h2
      go_enter Try.func98, Try.ntmps98
      go_wp2
      go_ret
      exact ⟨ret_int HF.out.symm, rfl⟩
    · have b2 : (x.toList == y.toList) = true := by
        rw [Lib.toList_data, Lib.toList_data, beq_iff_eq]; exact List.le_antisymm (List.not_lt.1 h2) (List.not_lt.1 h1)
      have hf : cmpB x y = 0 := by unfold cmpB; rw [if_neg h1, if_neg h2]
      have HF := Lib.hid hf
      clear hf h1 h2
      go_enter Try.func98, Try.ntmps98
      go_wp2
      go_ret
      exact ⟨ret_int HF.out.symm, rfl⟩

theorem cmpB_cases (x y : ByteArray) : cmpB x y = -1 ∨ cmpB x y = 0 ∨ cmpB x y = 1 := by unfold cmpB; split; (exact .inl rfl); split; (exact .inr (.inr rfl)); exact .inr (.inl rfl)

theorem drop_at {α : Type} {L : List α} {k : Nat} {x : α} (h : L[k]? = some x) : L.drop k = x :: L.drop (k + 1) := by
  obtain ⟨hlt, he⟩ := List.getElem?_eq_some_iff.1 h
  rw [List.drop_eq_getElem_cons hlt, he]

theorem levels_len (s : ByteArray) (hs : s.size ≤ 1000000000) : 0 < (levels s).length ∧ (levels s).length ≤ 1000000001 := by
  have := (lvTo_le s s.size).2
  simp only [levels, List.length_append, List.length_cons, List.length_nil]; omega

end Go.Proofs.Ytppndkbicekkjaa

/- Plain: the order of levels; levels and joined texts. No program in sight. -/
namespace Go.Proofs.Tp
open Go Go.RowKit Go.Proofs.Ytppndkbicekkjaa

theorem cmpB_rev (x y : ByteArray) : cmpB y x = - cmpB x y := by
  unfold cmpB
  by_cases h1 : x.data.toList < y.data.toList
  · rw [if_pos h1, if_neg (List.lt_asymm h1), if_pos h1]; rfl
  · by_cases h2 : y.data.toList < x.data.toList
    · rw [if_pos h2, if_neg h1, if_pos h2]
    · rw [if_neg h1, if_neg h2, if_neg h2, if_neg h1]; rfl

theorem cmpB_zero (x y : ByteArray) : cmpB x y = 0 ↔ x = y := by
  unfold cmpB
  constructor
  · intro h
    by_cases h1 : x.data.toList < y.data.toList
    · rw [if_pos h1] at h; cases h
    · by_cases h2 : y.data.toList < x.data.toList
      · rw [if_neg h1, if_pos h2] at h; cases h
      · exact ba_ext (List.le_antisymm (List.not_lt.1 h2) (List.not_lt.1 h1))
  · rintro rfl
    rw [if_neg (List.lt_irrefl _), if_neg (List.lt_irrefl _)]

theorem cmpB_trans {x y z : ByteArray} (h1 : cmpB x y = -1) (h2 : cmpB y z = -1) : cmpB x z = -1 := by
  have k : ∀ {a b : ByteArray}, cmpB a b = -1 ↔ a.data.toList < b.data.toList := by
    intro a b
    unfold cmpB
    constructor
    · intro h
      by_cases h1 : a.data.toList < b.data.toList
      · exact h1
      · rw [if_neg h1] at h; split at h <;> cases h
    · intro h; rw [if_pos h]
  exact k.2 (List.lt_trans (k.1 h1) (k.1 h2))

theorem cmpL_cons (x y : ByteArray) (a b : List ByteArray) : cmpL (x :: a) (y :: b) = if cmpB x y = 0 then cmpL a b else cmpB x y := by rw [cmpL]

theorem cmpL_cases : ∀ (a b : List ByteArray), cmpL a b = -1 ∨ cmpL a b = 0 ∨ cmpL a b = 1
  | [], [] => .inr (.inl rfl)
  | [], _ :: _ => .inl rfl
  | _ :: _, [] => .inr (.inr rfl)
  | x :: a, y :: b => by
    rw [cmpL_cons]; split
    · exact cmpL_cases a b
    · exact cmpB_cases x y

theorem cmpL_rev : ∀ (a b : List ByteArray), cmpL b a = - cmpL a b
  | [], [] => rfl
  | [], _ :: _ => rfl
  | _ :: _, [] => rfl
  | x :: a, y :: b => by
    rw [cmpL_cons, cmpL_cons, cmpB_rev x y]
    by_cases h : cmpB x y = 0
    · rw [if_pos h, if_pos (by omega), cmpL_rev a b]
    · rw [if_neg h, if_neg (by omega)]

theorem cmpL_zero : ∀ (a b : List ByteArray), cmpL a b = 0 ↔ a = b
  | [], [] => ⟨fun _ => rfl, fun _ => rfl⟩
  | [], _ :: _ => ⟨fun h => (by cases h), fun h => (by cases h)⟩
  | _ :: _, [] => ⟨fun h => (by cases h), fun h => (by cases h)⟩
  | x :: a, y :: b => by
    rw [cmpL_cons]
    by_cases h : cmpB x y = 0
    · rw [if_pos h, cmpL_zero a b, (cmpB_zero x y).1 h]; simp
    · rw [if_neg h]
      constructor
      · intro e; exact absurd e h
      · intro e; injection e with e1 _; exact absurd ((cmpB_zero x y).2 e1) h

theorem cmpL_trans : ∀ (a b c : List ByteArray), cmpL a b ≤ 0 → cmpL b c ≤ 0 → cmpL a c ≤ 0
  | [], _, [], _, _ => Int.le_refl _
  | [], _, _ :: _, _, _ => by show (-1 : Int) ≤ 0; omega
  | x :: a, [], _, h, _ => by have : cmpL (x :: a) [] = 1 := rfl; omega
  | x :: a, y :: b, [], _, h => by have : cmpL (y :: b) [] = 1 := rfl; omega
  | x :: a, y :: b, z :: c, h1, h2 => by
    rw [cmpL_cons] at h1 h2 ⊢
    have cxy := cmpB_cases x y
    have cyz := cmpB_cases y z
    by_cases e1 : cmpB x y = 0
    · rw [if_pos e1] at h1
      have := (cmpB_zero x y).1 e1; subst this
      by_cases e2 : cmpB x z = 0
      · rw [if_pos e2] at h2 ⊢; exact cmpL_trans a b c h1 h2
      · rw [if_neg e2] at h2 ⊢; exact h2
    · rw [if_neg e1] at h1
      by_cases e2 : cmpB y z = 0
      · have := (cmpB_zero y z).1 e2; subst this
        rw [if_neg e1]; exact h1
      · rw [if_neg e2] at h2
        have := cmpB_trans (x := x) (y := y) (z := z) (by omega) (by omega)
        rw [this, if_neg (by decide)]; decide

theorem cmpL_more : ∀ (a m : List ByteArray), m ≠ [] → cmpL a (a ++ m) = -1
  | [], m, h => by cases m with | nil => exact absurd rfl h | cons _ _ => rfl
  | x :: a, m, h => by
    rw [List.cons_append, cmpL_cons, if_pos ((cmpB_zero x x).2 rfl)]
    exact cmpL_more a m h

theorem levels_map (s : ByteArray) : levels s = (split s.data.toList).map mkB := by
  rw [← levels_split, List.map_map]
  have : ∀ x : ByteArray, (mkB ∘ (·.data.toList)) x = x := fun x => rfl
  rw [List.map_congr_left (g := id) (fun x _ => this x), List.map_id]

theorem levels_inj {a b : ByteArray} (h : levels a = levels b) : a = b := by
  have := joinT_levels a
  rw [h, joinT_levels] at this
  exact this.symm

theorem app_data (a b : ByteArray) : (a ++ b).data.toList = a.data.toList ++ b.data.toList := by
  rw [ByteArray.data_append, Array.toList_append]

/-- Two texts with a slash between them. -/
theorem levels_cut (a b : ByteArray) : levels (a ++ ⟨#[47]⟩ ++ b) = levels a ++ levels b := by
  rw [levels_map, levels_map, levels_map, app_data, app_data, List.append_assoc]
  show (split (a.data.toList ++ 47 :: b.data.toList)).map mkB = _
  rw [split_cut, List.map_append]

theorem level_noslash {s x : ByteArray} (h : x ∈ levels s) : 47 ∉ x.data.toList :=
  split_noslash _ _ (by rw [← levels_split]; exact List.mem_map_of_mem h)

theorem levels_plain {x : ByteArray} (h : 47 ∉ x.data.toList) : levels x = [x] := by
  rw [levels_map, split_plain _ h]; rfl

theorem levels_joinT (L : List ByteArray) (h : L ≠ []) (hx : ∀ x, x ∈ L → 47 ∉ x.data.toList) : levels (joinT L) = L := by
  rw [levels_map, joinT_data, split_join]
  · rw [List.map_map]
    have : ∀ x : ByteArray, (mkB ∘ (·.data.toList)) x = x := fun x => rfl
    rw [List.map_congr_left (g := id) (fun x _ => this x), List.map_id]
  · intro e; exact h (List.map_eq_nil_iff.1 e)
  · intro y hy
    obtain ⟨x, h1, rfl⟩ := List.mem_map.1 hy
    exact hx x h1

theorem levels_one {x : ByteArray} (h : (levels x).length = 1) : levels x = [x] := by
  have hj := joinT_levels x
  match hL : levels x, h with
  | [y], _ =>
    rw [hL] at hj
    have : joinT [y] = y := by unfold joinT; rw [List.map_cons, List.map_nil, Lib.join_one]
    rw [← hj, this]

/-! ### Shared filters -/

def shareT : ByteArray := ⟨#[36, 115, 104, 97, 114, 101, 47]⟩
def slashT : ByteArray := ⟨#[47]⟩

theorem ba_assoc (a b c : ByteArray) : a ++ b ++ c = a ++ (b ++ c) := ba_ext (by simp only [app_data, List.append_assoc])

theorem joinT_cons (x y : ByteArray) (r : List ByteArray) : joinT (x :: y :: r) = x ++ slashT ++ joinT (y :: r) := by
  apply ba_ext
  rw [app_data, app_data, joinT_data, joinT_data, List.map_cons, List.map_cons, Lib.join_cons, Lib.join_cons]
  simp [Lib.joinTail, slashT]

end Go.Proofs.Tp
