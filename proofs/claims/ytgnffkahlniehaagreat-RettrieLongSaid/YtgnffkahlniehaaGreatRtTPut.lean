/- Proved here: Put, of a trie. -/
import Derived.Test.YtgnffkahlniehaaGreatRtTDrop
import Derived.Test.YtgnffkahlniehaaGreatRtPutA
namespace Go.Proofs.YtgnffkahlniehaaGreat
open Go Go.RowKit Go.Proofs.Gs Go.Proofs.Tri Go.Proofs.Rt Go.Proofs.Tp

/-- Is a message one that a trie takes? -/
def takes (m : MsgV) : Bool := decide (chk m.topic = 0) && decide (0 ≤ m.qos) && decide (m.qos ≤ 2)

set_option maxHeartbeats 4000000 in
set_option maxRecDepth 100000 in
theorem tput_no {F G : Nat → Prop} {w : World} {tb : Nat} {t : Tree} (T : TrieAt F w tb t) {v : Value} {m : MsgV} (hv : MsgVal G w v m) (hs : m.topic.size ≤ 1000000000) (hno : takes m = false) :
    Calls Tryz.prog 10 #[.pointer (some ⟨tb, 0, none⟩), v] w fun e w' => (∃ n : Int, n ≠ 0 ∧ e = .returned (.tuple #[.bool false, .int .i64 n])) ∧ TriePost F w tb t w' := by
  obtain ⟨pv, rfl, hrow⟩ := hv
  obtain ⟨⟨_, a, cap, rfl, _⟩, _⟩ := hrow
  have HT := Lib.hid T
  clear T
  by_cases hc : chk m.topic = 0
  · have hc1 : (chk m.topic != 0) = false := by rw [hc]; rfl
    have hq : m.qos < 0 ∨ 2 < m.qos := by
      unfold takes at hno
      rw [hc] at hno
      simp at hno
      omega
    rcases hq with hq | hq
    · have d1 : decide (m.qos < 0) = true := decide_eq_true hq
      go_enter Tryz.func10, Tryz.ntmps10
      go_wp2_with fail
      have g0 := (MapKept.heap_alloc w (.cells #[.string m.topic, .slice a m.pay.length cap, .int .i64 m.qos, .bool m.ret] 36)).1
      have hb0 : Below w.heap.size w (w.alloc (.cells #[.string m.topic, .slice a m.pay.length cap, .int .i64 m.qos, .bool m.ret] 36)) := (Below.refl _ _).alloc (Nat.le_refl _) _
      generalize w.alloc (.cells #[.string m.topic, .slice a m.pay.length cap, .int .i64 m.qos, .bool m.ret] 36) = W0 at g0 hb0 ⊢
      refine (check_any m.topic _ hs).mono ?_
      rintro e w1 ⟨rfl, hb1⟩
      have g1 := (hb1.block w.heap.size ((Array.getElem?_eq_some_iff.1 g0).1)).trans g0
      have k2 : w1.cell? ⟨w.heap.size, 2, none⟩ = some (.int .i64 m.qos) := by unfold World.cell?; simp only; rw [g1]; rfl
      have HB := Lib.hid (hb0.trans (hb1.mono hb0.size))
      clear g0 hb0 g1 hb1
      go_wp2_with fail
      go_ret2
      exact ⟨⟨_, by decide, rfl⟩, HT.out.since HB.out⟩
    · have d1 : decide (m.qos < 0) = false := decide_eq_false (by omega)
      have d2 : decide (2 < m.qos) = true := decide_eq_true hq
      go_enter Tryz.func10, Tryz.ntmps10
      go_wp2_with fail
      have g0 := (MapKept.heap_alloc w (.cells #[.string m.topic, .slice a m.pay.length cap, .int .i64 m.qos, .bool m.ret] 36)).1
      have hb0 : Below w.heap.size w (w.alloc (.cells #[.string m.topic, .slice a m.pay.length cap, .int .i64 m.qos, .bool m.ret] 36)) := (Below.refl _ _).alloc (Nat.le_refl _) _
      generalize w.alloc (.cells #[.string m.topic, .slice a m.pay.length cap, .int .i64 m.qos, .bool m.ret] 36) = W0 at g0 hb0 ⊢
      refine (check_any m.topic _ hs).mono ?_
      rintro e w1 ⟨rfl, hb1⟩
      have g1 := (hb1.block w.heap.size ((Array.getElem?_eq_some_iff.1 g0).1)).trans g0
      have k2 : w1.cell? ⟨w.heap.size, 2, none⟩ = some (.int .i64 m.qos) := by unfold World.cell?; simp only; rw [g1]; rfl
      have HB := Lib.hid (hb0.trans (hb1.mono hb0.size))
      clear g0 hb0 g1 hb1
      go_wp2_with fail
      go_ret2
      exact ⟨⟨_, by decide, rfl⟩, HT.out.since HB.out⟩
  · have hc1 : (chk m.topic != 0) = true := by rw [bne_iff_ne]; exact hc
    go_enter Tryz.func10, Tryz.ntmps10
    go_wp2_with fail
    have g0 := (MapKept.heap_alloc w (.cells #[.string m.topic, .slice a m.pay.length cap, .int .i64 m.qos, .bool m.ret] 36)).1
    have hb0 : Below w.heap.size w (w.alloc (.cells #[.string m.topic, .slice a m.pay.length cap, .int .i64 m.qos, .bool m.ret] 36)) := (Below.refl _ _).alloc (Nat.le_refl _) _
    generalize w.alloc (.cells #[.string m.topic, .slice a m.pay.length cap, .int .i64 m.qos, .bool m.ret] 36) = W0 at g0 hb0 ⊢
    refine (check_any m.topic _ hs).mono ?_
    rintro e w1 ⟨rfl, hb1⟩
    have g1 := (hb1.block w.heap.size ((Array.getElem?_eq_some_iff.1 g0).1)).trans g0
    have k2 : w1.cell? ⟨w.heap.size, 2, none⟩ = some (.int .i64 m.qos) := by unfold World.cell?; simp only; rw [g1]; rfl
    have HB := Lib.hid (hb0.trans (hb1.mono hb0.size))
    clear g0 hb0 g1 hb1
    go_wp2_with fail
    go_ret2
    exact ⟨⟨_, by decide, rfl⟩, HT.out.since HB.out⟩

theorem put_lim {t : Tree} (hf : Forest ltB t.kids) (hl : Lim t) (hc : (body t).length < 1000000) {path : List ByteArray} (hp : path.length ≤ 1000000001) (m : MsgV) : Forest ltB (put ltB t path m).kids ∧ Lim (put ltB t path m) ∧ body (put ltB t path m) = ins (lex ltB) path m (body t) := by
  obtain ⟨_, d2, d3, _⟩ := put_spec linB m path.length path t (Nat.le_refl _) hf
  refine ⟨d3, ⟨?_, fun e he => ?_⟩, d2⟩
  · rw [d2]
    have : ∀ l : List (List ByteArray × MsgV), (ins (lex ltB) path m l).length ≤ l.length + 1 := by
      intro l
      induction l with
      | nil => simp [ins]
      | cons a l ih => rw [ins]; split; (simp); split; (simp); (simp only [List.length_cons]; omega)
    have := this (body t)
    omega
  · rw [d2] at he
    rcases ins_mem he with rfl | he
    · exact hp
    · exact hl.long e he

set_option maxHeartbeats 4000000 in
set_option maxRecDepth 100000 in
theorem tput_yes {F G : Nat → Prop} {w : World} {tb : Nat} {t : Tree} (T : TrieAt F w tb t) (hsh : Short t) (hcount : (body t).length < 1000000) {v : Value} {m : MsgV} (hv : MsgVal G w v m) (hs : m.topic.size ≤ 1000000000) (hpay : m.pay.length ≤ 1000000000) (hyes : takes m = true) :
    Calls Tryz.prog 10 #[.pointer (some ⟨tb, 0, none⟩), v] w fun e w' => e = .returned (.tuple #[.bool (get (levels m.topic) (body t)).isSome, .int .i64 0]) ∧ TriePost F w tb (put ltB t (levels m.topic) m) w' := by
  obtain ⟨hc, hq0, hq2⟩ : chk m.topic = 0 ∧ 0 ≤ m.qos ∧ m.qos ≤ 2 := by unfold takes at hyes; simp at hyes; exact ⟨hyes.1.1, hyes.1.2, hyes.2⟩
  have hv' := hv
  obtain ⟨pv, rfl, hrow⟩ := hv
  have hrow' := hrow
  obtain ⟨⟨_, a, cap, rfl, _⟩, _⟩ := hrow
  have HT := Lib.hid T
  have HROW := Lib.hid hrow'
  have hc1 : (chk m.topic != 0) = false := by rw [hc]; rfl
  have d1 : decide (m.qos < 0) = false := decide_eq_false (by omega)
  have d2 : decide (2 < m.qos) = false := decide_eq_false (by omega)
  clear T hv' hrow' hc
  go_enter Tryz.func10, Tryz.ntmps10
  go_wp2_with fail
  have g0 := (MapKept.heap_alloc w (.cells #[.string m.topic, .slice a m.pay.length cap, .int .i64 m.qos, .bool m.ret] 36)).1
  have hb0 : Below w.heap.size w (w.alloc (.cells #[.string m.topic, .slice a m.pay.length cap, .int .i64 m.qos, .bool m.ret] 36)) := (Below.refl _ _).alloc (Nat.le_refl _) _
  generalize w.alloc (.cells #[.string m.topic, .slice a m.pay.length cap, .int .i64 m.qos, .bool m.ret] 36) = W0 at g0 hb0 ⊢
  refine (check_any m.topic _ hs).mono ?_
  rintro e w1 ⟨rfl, hb1⟩
  have g1 := (hb1.block w.heap.size ((Array.getElem?_eq_some_iff.1 g0).1)).trans g0
  have k2 : w1.cell? ⟨w.heap.size, 2, none⟩ = some (.int .i64 m.qos) := by unfold World.cell?; simp only; rw [g1]; rfl
  have k0 : w1.cell? ⟨w.heap.size, 0, none⟩ = some (.string m.topic) := by unfold World.cell?; simp only; rw [g1]; rfl
  have hb01 := hb0.trans (hb1.mono hb0.size)
  have HB := Lib.hid hb01
  have HG1 := Lib.hid g1
  have HGET := Lib.hid (get_any (HT.out.below hb01) hsh m.topic hs)
  clear g0 hb0 g1 hb1 hb01
  go_wp2_with fail
  refine HGET.out.mono ?_
  rintro e w2 ⟨⟨vo, ⟨tt, ao, no, co, qo, rro, rfl⟩, rfl, -⟩, hb2⟩
  have g2 := (hb2.block w.heap.size ((Array.getElem?_eq_some_iff.1 HG1.out).1)).trans HG1.out
  have hb2' : Below w1.heap.size w1 (w2.alloc (.cells #[.string tt, .slice ao no co, .int .i64 qo, .bool rro] 36)) := hb2.alloc hb2.size _
  have HG2 := Lib.hid g2
  have HB2 := Lib.hid hb2'
  clear g2 hb2 hb2' k0 k2
  go_upto_region 6 with fail
  have g2' := (Below.heap_alloc w2 (.cells #[.string tt, .slice ao no co, .int .i64 qo, .bool rro] 36) _ (Array.getElem?_eq_some_iff.1 HG2.out).1).trans HG2.out
  generalize w2.alloc (.cells #[.string tt, .slice ao no co, .int .i64 qo, .bool rro] 36) = W2 at g2' HB2 ⊢
  have hbw2 := HB.out.trans (HB2.out.mono HB.out.size)
  have h0 : W2.cell? ⟨w.heap.size, 0, none⟩ = some (.string m.topic) := by unfold World.cell?; simp only; rw [g2']; rfl
  have h1 : W2.cell? ⟨w.heap.size, 1, none⟩ = some (.slice a m.pay.length cap) := by unfold World.cell?; simp only; rw [g2']; rfl
  have h2 : W2.cell? ⟨w.heap.size, 2, none⟩ = some (.int .i64 m.qos) := by unfold World.cell?; simp only; rw [g2']; rfl
  have h3 : W2.cell? ⟨w.heap.size, 3, none⟩ = some (.bool m.ret) := by unfold World.cell?; simp only; rw [g2']; rfl
  have HOWN := Lib.hid (own_any (F := G) (w := W2) (v := .agg #[.string m.topic, .slice a m.pay.length cap, .int .i64 m.qos, .bool m.ret]) (m := m) ⟨_, rfl, RowF.keep HROW.out (Same.below hbw2)⟩ hpay)
  have HG3 := Lib.hid g2'
  have HBW2 := Lib.hid hbw2
  clear g2' hbw2
  go_wp2_with fail
  refine HOWN.out.mono ?_
  rintro e w3 ⟨v5, rfl, ⟨pv5, rfl, hrow5⟩, hb3⟩
  have g3 := (hb3.block w.heap.size ((Array.getElem?_eq_some_iff.1 HG3.out).1)).trans HG3.out
  have s0 : w3.cell? ⟨w.heap.size, 0, none⟩ = some (.string m.topic) := by unfold World.cell?; simp only; rw [g3]; rfl
  have s1 : w3.cell? ⟨w.heap.size, 1, none⟩ = some (.slice a m.pay.length cap) := by unfold World.cell?; simp only; rw [g3]; rfl
  have s2 : w3.cell? ⟨w.heap.size, 2, none⟩ = some (.int .i64 m.qos) := by unfold World.cell?; simp only; rw [g3]; rfl
  have s3 : w3.cell? ⟨w.heap.size, 3, none⟩ = some (.bool m.ret) := by unfold World.cell?; simp only; rw [g3]; rfl
  have f1 := fun j => frozen_of_row w3 w.heap.size j _ _ g3
  have H3 := Lib.hid g3
  have HB3 := Lib.hid hb3
  have HR5 := Lib.hid hrow5
  obtain ⟨ap, cp, rfl⟩ : ∃ ap cp, pv5 = .slice ap m.pay.length cp := by obtain ⟨⟨_, a, c, e, _⟩, _⟩ := hrow5; exact ⟨a, c, e⟩
  clear g3 hb3 hrow5 h0 h1 h2 h3
  go_upto_region 7 with fail
  obtain ⟨W4, hW⟩ : ∃ W, (((w3.setCell ⟨w.heap.size, 0, none⟩ (.string m.topic)).setCell ⟨w.heap.size, 1, none⟩ (.slice ap m.pay.length cp)).setCell ⟨w.heap.size, 2, none⟩ (.int .i64 m.qos)).setCell ⟨w.heap.size, 3, none⟩ (.bool m.ret) = W := ⟨_, rfl⟩
  obtain ⟨g4, b4, s4⟩ := set4 H3.out hW
  have o4 : ∀ k, k ≠ w.heap.size → W4.heap[k]? = w3.heap[k]? := fun k hk => by
    rw [← hW]
    exact (heap_setCell_other _ _ _ _ hk).trans ((heap_setCell_other _ _ _ _ hk).trans ((heap_setCell_other _ _ _ _ hk).trans (heap_setCell_other _ _ _ _ hk)))
  rw [hW]
  clear hW s0 s1 s2 s3 f1
  have hlt3 : w.heap.size < W2.heap.size := (Array.getElem?_eq_some_iff.1 HG3.out).1
  have hs3 := HB3.out.size
  have hb4 : Below w.heap.size w W4 := (HBW2.out.trans (HB3.out.mono (by omega))).trans (b4 _ (Nat.le_refl _))
  have hmsg : MsgAt (Since F w W4) W4 w.heap.size m := by
    refine ⟨.inr ⟨Nat.le_refl _, by omega⟩, by unfold World.cell?; simp only; rw [g4]; rfl, ⟨.slice ap m.pay.length cp, by unfold World.cell?; simp only; rw [g4]; rfl, ?_⟩, by unfold World.cell?; simp only; rw [g4]; rfl, by unfold World.cell?; simp only; rw [g4]; rfl⟩
    exact (HR5.out.keep (fun k hk hF => o4 k (by have := hF.1; omega))).mono (fun x hx => .inr ⟨by have := hx.1; omega, by have := hx.2; omega⟩)
  have T4 := HT.out.below hb4
  obtain ⟨p, c0, hn⟩ := T4.root
  have k0 : W4.cell? ⟨w.heap.size, 0, none⟩ = some (.string m.topic) := hmsg.c0
  have hf4 := T4.fit
  have HB4 := Lib.hid hb4
  have hold : ∀ x, Since F w W4 x → x < W4.heap.size := fun x hx => hx.elim (fun h => T4.old x h) (fun h => h.2)
  have HPUT := Lib.hid (fun (W : World) (hbw : Below W4.heap.size W4 W) (v : Value) (hv : StrsAt W v (levels m.topic)) => put_any (levels m.topic).length (Since F w W4) W p t v (levels m.topic) (Nat.le_refl _) (levels_len m.topic hs).2 ⟨NodeAt.keep hbw (NodeAt.mono since_old hn), T4.forest, T4.lim⟩ (fun x hx => by have := hold x hx; have := hbw.size; omega) hv (hmsg.below hbw))
  clear hn T4 hb4 hmsg hold g4 b4 o4
  go_region_law (first
    | (go_simp; go_at_call 28; refine (levels_any m.topic _ hs).mono ?_; rintro e w5 ⟨v1, rfl, hown, hb5⟩; have HB5 := Lib.hid (show Below W4.heap.size W4 w5 from by first | exact hb5 | exact ((Below.refl _ W4).drew).trans hb5); have HST := Lib.hid (StrsAt.of_owns hown); have c2 := cell_below HB5.out c0; clear hown hb5)
    | (go_simp; go_at_call 27; refine (HPUT.out _ HB5.out _ HST.out).mono ?_; rintro e w6 ⟨q3, rfl, hn3, hb6⟩; have HB6 := Lib.hid hb6; have HN3 := Lib.hid hn3; have c3 := cell_below hb6 c2; have f3 : w6.frozen? ⟨tb, 0, none⟩ = false := (HT.out.below ((HB4.out.trans (HB5.out.mono HB4.out.size)).trans (hb6.mono (by have := HB4.out.size; have := HB5.out.size; omega)))).fit; clear hn3 hb6))
  all_goals
    go_wp2_with fail
    go_ret2
    obtain ⟨l1, l2, l3⟩ := put_lim HT.out.forest HT.out.lim hcount (levels_len m.topic hs).2 m
    have h1 := HB4.out.size
    have h2 := HB5.out.size
    have h3 := HB6.out.size
    have hb05 := HB4.out.trans (HB5.out.mono h1)
    refine ⟨rfl, ?_⟩
    exact HT.out.turned (hb05.trans (HB6.out.mono (by omega))) (NodeAt.mono (since_since h1 (by omega)) (NodeAt.mono (since_weak h2) HN3.out)) l1 l2 rfl
end Go.Proofs.YtgnffkahlniehaaGreat
