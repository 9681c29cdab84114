/- Proved here: how many nodes and messages there are. -/
import Derived.Test.YtgnffkahlniehaaGreatRtBase
namespace Go.Proofs.YtgnffkahlniehaaGreat
open Go Go.RowKit Go.Proofs.Gs Go.Proofs.Tri Go.Proofs.Rt Go.Proofs.Tp

theorem nodesL_app (a b : List Tree) : nodesL (a ++ b) = nodesL a + nodesL b := by
  induction a with
  | nil => simp [nodesL]
  | cons k ks ih => simp only [List.cons_append, nodesL, ih]; omega

theorem nodesL_next {ks : List Tree} {j : Nat} {k : Tree} (h : ks[j]? = some k) : nodesL (ks.take (j + 1)) = nodesL (ks.take j) + nodes k := by
  rw [List.take_add_one, h, nodesL_app]
  simp [nodesL]

theorem entsL_next {ks : List Tree} {j : Nat} {k : Tree} (h : ks[j]? = some k) : (entsL (ks.take (j + 1))).length = (entsL (ks.take j)).length + (body k).length := by
  rw [List.take_add_one, h, entsL_app, List.length_append]
  simp [entsL_cons, entsL_nil, ents_body, pre_length]

theorem nodesL_take (ks : List Tree) (j : Nat) : nodesL (ks.take j) ≤ nodesL ks := by
  conv => rhs; rw [← List.take_append_drop j ks, nodesL_app]
  omega

theorem entsL_take (ks : List Tree) (j : Nat) : (entsL (ks.take j)).length ≤ (entsL ks).length := by
  conv => rhs; rw [← List.take_append_drop j ks, entsL_app, List.length_append]
  omega

theorem nodes_kids (t : Tree) : nodes t = 1 + nodesL t.kids := by cases t; simp [nodes, Tr.kids]; omega

theorem nodesL_len (ks : List Tree) : ks.length ≤ nodesL ks := by
  induction ks with
  | nil => simp
  | cons k ks ih => have := nodes_kids k; simp only [nodesL, List.length_cons]; omega

set_option maxHeartbeats 4000000 in
set_option maxRecDepth 100000 in
theorem count_any : ∀ (t : Tree) (F : Nat → Prop) (w : World) (p : Nat), NodeAt F w p t → nodes t ≤ 100000000 → (body t).length ≤ 100000000 →
    Calls Tryz.prog 49 #[.pointer (some ⟨p, 0, none⟩)] w fun e w' => e = .returned (.tuple #[.int .i64 (nodes t), .int .i64 ((body t).length : Nat)]) ∧ w' = w := by
  refine Tr.ind (fun lv v ks ih => ?_)
  intro F w p h hn hb
  obtain ⟨sv, mv, kv, bs, O⟩ := h.open
  have hl := O.hl
  rw [Tr.kids_node] at hl
  have c1 := O.c1
  have c2 := O.c2
  have hkids := nodes_kids (Tr.node lv v ks)
  rw [Tr.kids_node] at hkids
  have hbody : (body (Tr.node lv v ks)).length = (ownE v : List (List ByteArray × MsgV)).length + (entsL ks).length := by unfold body; rw [List.length_append]; rfl
  rw [hkids] at hn ⊢
  rw [hbody] at hb ⊢
  obtain ⟨own, hown⟩ : ∃ n, (ownE v : List (List ByteArray × MsgV)).length = n := ⟨_, rfl⟩
  rw [hown] at hb ⊢
  have HIH := Lib.hid ih
  have HO := Lib.hid O
  have hlen := Lib.hid hl
  have HC := Lib.hid (fun (j : Nat) (b : Nat) (k : Tree) (h1 : bs[j]? = some b) (h2 : ks[j]? = some k) => ih k (List.mem_of_getElem? h2) F w b (O.hn j b k h1 h2))
  obtain ⟨n, hnb⟩ : ∃ n, bs.length = n := ⟨_, rfl⟩
  have HNB := Lib.hid hnb
  have hmv : (mv = .pointer none ∧ own = 0) ∨ (∃ a, mv = .pointer (some a) ∧ own = 1) := by
    have hm := O.hm
    cases v with
    | none => exact .inl ⟨hm, by rw [← hown]; rfl⟩
    | some m => obtain ⟨b, e, _⟩ := hm; exact .inr ⟨_, e, by rw [← hown]; rfl⟩
  have hcell : ∃ a cap, kv = .slice a n cap ∧ (n = 0 ∨ ∃ b off, a = some ⟨b, off, none⟩ ∧ ∀ j u, (bs.map ptrV)[j]? = some u → w.cell? ⟨b, off + j, none⟩ = some u) := by
    rcases RowAt.cases O.hk with ⟨h8, _, a, cap, e, _⟩ | ⟨_, b, off, cap, e, _, _, _, h⟩
    · exact ⟨a, cap, by rw [e, ← hnb, h8], .inl (by omega)⟩
    · exact ⟨_, cap, by rw [e, hnb], .inr ⟨b, off, rfl, h⟩⟩
  obtain ⟨a, cap, rfl, hcell⟩ := hcell
  have HCELL := Lib.hid hcell
  have HT1 := Lib.hid (nodesL_take ks)
  have HT2 := Lib.hid (entsL_take ks)
  obtain ⟨T1, hT1⟩ : ∃ T, nodesL ks = T := ⟨_, rfl⟩
  obtain ⟨T2, hT2⟩ : ∃ T, (entsL ks).length = T := ⟨_, rfl⟩
  have HTT1 := Lib.hid hT1
  have HTT2 := Lib.hid hT2
  rw [hT1] at hn ⊢
  rw [hT2] at hb ⊢
  have hnT : n ≤ T1 := by have := nodesL_len ks; omega
  clear O h ih hl hkids hbody hown hcell hnb hT1 hT2
  rcases hmv with ⟨rfl, rfl⟩ | ⟨am, rfl, rfl⟩
  case inl =>
    go_enter Tryz.func49, Tryz.ntmps49
    go_wp2_with fail
    go_loopg [2, 3, 5, 6, 7, 18] n (fun g n2 n3 k5 a6 b7 i wr => ∃ j A B : Nat, j + g = n ∧ i = .int .i64 (j : Nat) ∧ n2 = .int .i64 (1 + (A : Nat)) ∧ n3 = .int .i64 (0 + (B : Nat)) ∧ nodesL (ks.take j) = A ∧ (entsL (ks.take j)).length = B ∧ w = wr)
    case atStart => exact ⟨0, 0, 0, by omega, rfl, by first | rfl | go_num, by first | rfl | go_num, by simp [nodesL], by simp [entsL_nil], rfl⟩
    case round =>
      obtain ⟨j, A, B, hj, rfl, rfl, rfl, hA, hB, rfl⟩ := hrel
      have HA := Lib.hid hA
      have HB := Lib.hid hB
      clear hA hB
      cases gk with
      | zero =>
        obtain rfl : j = n := by omega
        have hd : decide ((j : Int) < (j : Int)) = false := decide_eq_false (by omega)
        have hfin1 : A = T1 := by rw [← HA.out, ← HTT1.out, List.take_of_length_le (by have := hlen.out; have := HNB.out; omega)]
        have hfin2 : B = T2 := by rw [← HB.out, ← HTT2.out, List.take_of_length_le (by have := hlen.out; have := HNB.out; omega)]
        subst hfin1
        subst hfin2
        go_wp2_with fail
        go_ret2
        exact ⟨by go_num, rfl⟩
      | succ gk =>
        have hjn : j < n := by omega
        have hd : decide ((j : Int) < (n : Int)) = true := decide_eq_true (by omega)
        have hb1 : (0 : Int) ≤ (j : Int) := by omega
        have hb2 : (j : Int) < (n : Int) := by omega
        obtain ⟨b, g1⟩ : ∃ b, bs[j]? = some b := ⟨_, List.getElem?_eq_getElem (show j < bs.length by have := HNB.out; omega)⟩
        obtain ⟨k, g2⟩ : ∃ k, ks[j]? = some k := ⟨_, List.getElem?_eq_getElem (show j < ks.length by have := HNB.out; have := hlen.out; omega)⟩
        obtain ⟨cb, off, rfl, hc⟩ := HCELL.out.resolve_left (by omega)
        have kk := hc j (ptrV b) (by rw [List.getElem?_map, g1]; rfl)
        have n1 := nodesL_next g2
        have n2 := entsL_next g2
        have t1 := HT1.out (j + 1)
        have t2 := HT2.out (j + 1)
        rw [n1, HA.out, HTT1.out] at t1
        rw [n2, HB.out, HTT2.out] at t2
        rw [HA.out] at n1
        rw [HB.out] at n2
        have hcall := HC.out j b k g1 g2 (by omega) (by omega)
        have HN1 := Lib.hid n1
        have HN2 := Lib.hid n2
        obtain ⟨x1, hx1⟩ : ∃ x, nodes k = x := ⟨_, rfl⟩
        obtain ⟨x2, hx2⟩ : ∃ x, (body k).length = x := ⟨_, rfl⟩
        rw [hx1] at hcall t1 HN1
        rw [hx2] at hcall t2 HN2
        have HCALL := Lib.hid hcall
        clear hc g1 g2 n1 n2 hcall hx1 hx2
        unfold ptrV at kk
        go_wp2_with fail
        refine HCALL.out.mono ?_
        rintro e w' ⟨rfl, rfl⟩
        go_wp2_with fail
        go_roundg gk
        case measure => omega
        case rel => exact ⟨j + 1, A + x1, B + x2, by omega, by go_num, by go_num, by go_num, HN1.out, HN2.out, rfl⟩
  case inr =>
    go_enter Tryz.func49, Tryz.ntmps49
    go_wp2_with fail
    go_loopg [2, 3, 5, 6, 7, 18] n (fun g n2 n3 k5 a6 b7 i wr => ∃ j A B : Nat, j + g = n ∧ i = .int .i64 (j : Nat) ∧ n2 = .int .i64 (1 + (A : Nat)) ∧ n3 = .int .i64 (1 + (B : Nat)) ∧ nodesL (ks.take j) = A ∧ (entsL (ks.take j)).length = B ∧ w = wr)
    case atStart => exact ⟨0, 0, 0, by omega, rfl, by first | rfl | go_num, by first | rfl | go_num, by simp [nodesL], by simp [entsL_nil], rfl⟩
    case round =>
      obtain ⟨j, A, B, hj, rfl, rfl, rfl, hA, hB, rfl⟩ := hrel
      have HA := Lib.hid hA
      have HB := Lib.hid hB
      clear hA hB
      cases gk with
      | zero =>
        obtain rfl : j = n := by omega
        have hd : decide ((j : Int) < (j : Int)) = false := decide_eq_false (by omega)
        have hfin1 : A = T1 := by rw [← HA.out, ← HTT1.out, List.take_of_length_le (by have := hlen.out; have := HNB.out; omega)]
        have hfin2 : B = T2 := by rw [← HB.out, ← HTT2.out, List.take_of_length_le (by have := hlen.out; have := HNB.out; omega)]
        subst hfin1
        subst hfin2
        go_wp2_with fail
        go_ret2
        exact ⟨by go_num, rfl⟩
      | succ gk =>
        have hjn : j < n := by omega
        have hd : decide ((j : Int) < (n : Int)) = true := decide_eq_true (by omega)
        have hb1 : (0 : Int) ≤ (j : Int) := by omega
        have hb2 : (j : Int) < (n : Int) := by omega
        obtain ⟨b, g1⟩ : ∃ b, bs[j]? = some b := ⟨_, List.getElem?_eq_getElem (show j < bs.length by have := HNB.out; omega)⟩
        obtain ⟨k, g2⟩ : ∃ k, ks[j]? = some k := ⟨_, List.getElem?_eq_getElem (show j < ks.length by have := HNB.out; have := hlen.out; omega)⟩
        obtain ⟨cb, off, rfl, hc⟩ := HCELL.out.resolve_left (by omega)
        have kk := hc j (ptrV b) (by rw [List.getElem?_map, g1]; rfl)
        have n1 := nodesL_next g2
        have n2 := entsL_next g2
        have t1 := HT1.out (j + 1)
        have t2 := HT2.out (j + 1)
        rw [n1, HA.out, HTT1.out] at t1
        rw [n2, HB.out, HTT2.out] at t2
        rw [HA.out] at n1
        rw [HB.out] at n2
        have hcall := HC.out j b k g1 g2 (by omega) (by omega)
        have HN1 := Lib.hid n1
        have HN2 := Lib.hid n2
        obtain ⟨x1, hx1⟩ : ∃ x, nodes k = x := ⟨_, rfl⟩
        obtain ⟨x2, hx2⟩ : ∃ x, (body k).length = x := ⟨_, rfl⟩
        rw [hx1] at hcall t1 HN1
        rw [hx2] at hcall t2 HN2
        have HCALL := Lib.hid hcall
        clear hc g1 g2 n1 n2 hcall hx1 hx2
        unfold ptrV at kk
        go_wp2_with fail
        refine HCALL.out.mono ?_
        rintro e w' ⟨rfl, rfl⟩
        go_wp2_with fail
        go_roundg gk
        case measure => omega
        case rel => exact ⟨j + 1, A + x1, B + x2, by omega, by go_num, by go_num, by go_num, HN1.out, HN2.out, rfl⟩
end Go.Proofs.YtgnffkahlniehaaGreat
