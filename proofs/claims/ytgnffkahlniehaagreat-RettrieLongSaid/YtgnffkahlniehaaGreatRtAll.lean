/- Proved here: all, what stands from a node on, given to a function that goes on. -/
import Derived.Test.YtgnffkahlniehaaGreatRtCount
namespace Go.Proofs.YtgnffkahlniehaaGreat
open Go Go.RowKit Go.Proofs.Gs Go.Proofs.Tri Go.Proofs.Rt Go.Proofs.Tp

theorem vals_node {lv : List ByteArray} {v : Option MsgV} {ks : List Tree} : vals (body (Tr.node lv v ks)) = vals (ownE v : List (List ByteArray × MsgV)) ++ vals (entsL ks) := by unfold vals body; rw [List.map_append]; rfl
theorem vals_ents (k : Tree) : vals (ents k) = vals (body k) := by rw [ents_body]; unfold vals pre; rw [List.map_map]; rfl
theorem vals_length {l : List (List ByteArray × MsgV)} : (vals l).length = l.length := by unfold vals; simp

/-- The part of a row of messages that stands at an edge. -/
theorem vals_kid {ks : List Tree} {j : Nat} {k : Tree} (h : ks[j]? = some k) {i : Nat} {a : MsgV} (ha : (vals (body k))[i]? = some a) : (vals (entsL ks))[(entsL (ks.take j)).length + i]? = some a := by
  obtain ⟨hj, hg⟩ := List.getElem?_eq_some_iff.1 h
  have hs : ks = ks.take j ++ k :: ks.drop (j + 1) := by
    conv => lhs; rw [← List.take_append_drop j ks, List.drop_eq_getElem_cons hj, hg]
  have e : vals (entsL ks) = vals (entsL (ks.take j)) ++ (vals (body k) ++ vals (entsL (ks.drop (j + 1)))) := by
    conv => lhs; rw [hs, entsL_app, entsL_cons]
    rw [← vals_ents]
    unfold vals; simp only [List.map_append]
  rw [e, List.getElem?_append_right (by rw [vals_length]; omega), vals_length, Nat.add_sub_cancel_left, List.getElem?_append_left (List.getElem?_eq_some_iff.1 ha).1]
  exact ha

set_option maxHeartbeats 4000000 in
set_option maxRecDepth 100000 in
theorem all_any {F : Nat → Prop} {w0 : World} {ms : List MsgV} (g : Nat) (caps : Array Value) (hcall : ∀ args W, (callFunc g args).run Tryz.prog W = .ok (.enter g args) W) (J : Nat → World → Prop) (hS : ∀ i W, J i W → Same F w0 W)
    (hY : ∀ i m b W, ms[i]? = some m → J i W → MsgAt F w0 b m → Calls Tryz.prog g (#[.pointer (some ⟨b, 0, none⟩)] ++ caps) W fun e W' => e = .returned (.bool true) ∧ J (i + 1) W') :
    ∀ (t : Tree) (p i : Nat) (W : World), NodeAt F w0 p t → nodes t ≤ 100000000 → (∀ j a, (vals (body t))[j]? = some a → ms[i + j]? = some a) → J i W →
      Calls Tryz.prog 65 #[.pointer (some ⟨p, 0, none⟩), .func (.func g) #[] caps] W fun e W' => e = .returned (.bool true) ∧ J (i + (body t).length) W' := by
  refine Tr.ind (fun lv v ks ih => ?_)
  intro p i W h hn hms hJ
  obtain ⟨sv, mv, kv, bs, O⟩ := h.open
  have hl := O.hl
  rw [Tr.kids_node] at hl
  have hkids := nodes_kids (Tr.node lv v ks)
  rw [Tr.kids_node] at hkids
  have hbody : (body (Tr.node lv v ks)).length = (ownE v : List (List ByteArray × MsgV)).length + (entsL ks).length := by unfold body; rw [List.length_append]; rfl
  rw [hkids] at hn
  rw [hbody]
  have c1 := (O.same (hS _ _ hJ)).c1
  obtain ⟨own, hown⟩ : ∃ n, (ownE v : List (List ByteArray × MsgV)).length = n := ⟨_, rfl⟩
  have hkm : ∀ j b k, bs[j]? = some b → ks[j]? = some k → ∀ i' W', i' = i + own + (entsL (ks.take j)).length → J i' W' →
      Calls Tryz.prog 65 #[.pointer (some ⟨b, 0, none⟩), .func (.func g) #[] caps] W' fun e W'' => e = .returned (.bool true) ∧ J (i' + (body k).length) W'' := fun j b k h1 h2 i' W' hi' hJ' => by
    have hmem := List.mem_of_getElem? h2
    refine ih k hmem b i' W' (O.hn j b k h1 h2) (by have := nodesL_next h2; have := nodesL_take ks (j + 1); omega) (fun j' a ha => ?_) hJ'
    have h3 := vals_kid h2 ha
    have h4 := hms (own + ((entsL (ks.take j)).length + j')) a (by rw [vals_node, List.getElem?_append_right (by rw [vals_length, hown]; omega), vals_length, hown, Nat.add_sub_cancel_left]; exact h3)
    rw [hi', ← h4]; congr 1; omega
  have hmv : (mv = .pointer none ∧ own = 0) ∨ (∃ b m, mv = .pointer (some ⟨b, 0, none⟩) ∧ own = 1 ∧ MsgAt F w0 b m ∧ ms[i]? = some m) := by
    have hm := O.hm
    cases v with
    | none => exact .inl ⟨hm, by rw [← hown]; rfl⟩
    | some m => obtain ⟨b, e, hmm⟩ := hm; exact .inr ⟨b, m, e, by rw [← hown]; rfl, hmm, hms 0 m (by rw [vals_node]; rfl)⟩
  have hO := Lib.hid O
  have HKM := Lib.hid hkm
  have HS := Lib.hid hS
  have hlen := Lib.hid hl
  have HJ := Lib.hid hJ
  obtain ⟨n, hnb⟩ : ∃ n, bs.length = n := ⟨_, rfl⟩
  have HNB := Lib.hid hnb
  have hcell : ∃ a cap, kv = .slice a n cap ∧ (n = 0 ∨ ∃ b off, a = some ⟨b, off, none⟩ ∧ ∀ W', Same F w0 W' → ∀ j u, (bs.map ptrV)[j]? = some u → W'.cell? ⟨b, off + j, none⟩ = some u) := by
    rcases RowAt.cases O.hk with ⟨h8, _, a, cap, e, _⟩ | ⟨_, b, off, cap, e, _, _, _, h⟩
    · exact ⟨a, cap, by rw [e, ← hnb, h8], .inl (by omega)⟩
    · exact ⟨_, cap, by rw [e, hnb], .inr ⟨b, off, rfl, fun W' hs j u hu => hs.cell (O.hkf.2 b (by rw [e]; rfl)) (h j u hu)⟩⟩
  obtain ⟨a, cap, rfl, hcell⟩ := hcell
  have HCELL := Lib.hid hcell
  have hc2 : ∀ j W', J j W' → W'.cell? ⟨p, 2, none⟩ = some (.slice a n cap) := fun j W' hj => (O.same (hS _ _ hj)).c2
  have HC2 := Lib.hid hc2
  obtain ⟨T2, hT2⟩ : ∃ T, (entsL ks).length = T := ⟨_, rfl⟩
  have HTT2 := Lib.hid hT2
  have hnT : n ≤ 100000000 := by have := nodesL_len ks; omega
  have HY := Lib.hid hY
  rw [hown, hT2]
  clear O h ih hl hkids hbody hown hcell hnb hT2 hkm hS hJ hms hc2 hY hn
  rcases hmv with ⟨rfl, rfl⟩ | ⟨mb, m, rfl, rfl, hmb, hmi⟩
  case inl =>
    have kk2 := HC2.out _ _ HJ.out
    go_enter Tryz.func65, Tryz.ntmps65
    go_wp2_with fail
    go_loopg [6, 26] n (fun gg k6 i6 wr => ∃ j A : Nat, j + gg = n ∧ i6 = .int .i64 (j : Nat) ∧ A = i + 0 + (entsL (ks.take j)).length ∧ J A wr)
    case atStart => exact ⟨0, i + 0, by omega, rfl, by simp [entsL_nil], HJ.out⟩
    case round =>
      obtain ⟨j, A, hj, rfl, hA, hJr⟩ := hrel
      have HA := Lib.hid hA
      have HJR := Lib.hid hJr
      clear hA hJr
      cases gk with
      | zero =>
        obtain rfl : j = n := by omega
        have hd : decide ((j : Int) < (j : Int)) = false := decide_eq_false (by omega)
        have hfin : A = i + (0 + T2) := by rw [HA.out, ← HTT2.out, List.take_of_length_le (by have := hlen.out; have := HNB.out; omega)]; omega
        have HFIN := Lib.hid hfin
        clear hfin
        go_wp2_with fail
        go_ret
        exact ⟨rfl, by rw [← HFIN.out]; exact HJR.out⟩
      | succ gk =>
        have hjn : j < n := by omega
        have hd : decide ((j : Int) < (n : Int)) = true := decide_eq_true (by omega)
        have hb1 : (0 : Int) ≤ (j : Int) := by omega
        have hb2 : (j : Int) < (n : Int) := by omega
        obtain ⟨b, g1⟩ : ∃ b, bs[j]? = some b := ⟨_, List.getElem?_eq_getElem (show j < bs.length by have := HNB.out; omega)⟩
        obtain ⟨k, g2⟩ : ∃ k, ks[j]? = some k := ⟨_, List.getElem?_eq_getElem (show j < ks.length by have := HNB.out; have := hlen.out; omega)⟩
        obtain ⟨cb, off, rfl, hc⟩ := HCELL.out.resolve_left (by omega)
        have kk := hc _ (HS.out _ _ HJR.out) j (ptrV b) (by rw [List.getElem?_map, g1]; rfl)
        have n2 := entsL_next g2
        have HCALL := Lib.hid (HKM.out j b k g1 g2 A wr HA.out HJR.out)
        have HN2 := Lib.hid n2
        clear hc g1 g2 n2
        unfold ptrV at kk
        go_wp2_with fail
        refine HCALL.out.mono ?_
        rintro e w' ⟨rfl, hJw⟩
        have HJW := Lib.hid hJw
        clear hJw
        go_wp2_with fail
        go_roundg gk
        case measure => omega
        case rel => exact ⟨j + 1, A + (body k).length, by omega, by go_num, by rw [HN2.out, HA.out]; omega, HJW.out⟩
  case inr =>
    have HMB := Lib.hid hmb
    have HMI := Lib.hid hmi
    clear hmb hmi
    go_enter Tryz.func65, Tryz.ntmps65
    go_wp2_with fail
    refine (HY.out _ _ _ _ HMI.out HJ.out HMB.out).mono ?_
    rintro e W1 ⟨rfl, hJ1⟩
    have kk2 := HC2.out _ _ hJ1
    have HJ1 := Lib.hid hJ1
    clear hJ1
    go_wp2_with fail
    go_loopg [6, 26] n (fun gg k6 i6 wr => ∃ j A : Nat, j + gg = n ∧ i6 = .int .i64 (j : Nat) ∧ A = i + 1 + (entsL (ks.take j)).length ∧ J A wr)
    case atStart => exact ⟨0, i + 1, by omega, rfl, by simp [entsL_nil], HJ1.out⟩
    case round =>
      obtain ⟨j, A, hj, rfl, hA, hJr⟩ := hrel
      have HA := Lib.hid hA
      have HJR := Lib.hid hJr
      clear hA hJr
      cases gk with
      | zero =>
        obtain rfl : j = n := by omega
        have hd : decide ((j : Int) < (j : Int)) = false := decide_eq_false (by omega)
        have hfin : A = i + (1 + T2) := by rw [HA.out, ← HTT2.out, List.take_of_length_le (by have := hlen.out; have := HNB.out; omega)]; omega
        have HFIN := Lib.hid hfin
        clear hfin
        go_wp2_with fail
        go_ret
        exact ⟨rfl, by rw [← HFIN.out]; exact HJR.out⟩
      | succ gk =>
        have hjn : j < n := by omega
        have hd : decide ((j : Int) < (n : Int)) = true := decide_eq_true (by omega)
        have hb1 : (0 : Int) ≤ (j : Int) := by omega
        have hb2 : (j : Int) < (n : Int) := by omega
        obtain ⟨b, g1⟩ : ∃ b, bs[j]? = some b := ⟨_, List.getElem?_eq_getElem (show j < bs.length by have := HNB.out; omega)⟩
        obtain ⟨k, g2⟩ : ∃ k, ks[j]? = some k := ⟨_, List.getElem?_eq_getElem (show j < ks.length by have := HNB.out; have := hlen.out; omega)⟩
        obtain ⟨cb, off, rfl, hc⟩ := HCELL.out.resolve_left (by omega)
        have kk := hc _ (HS.out _ _ HJR.out) j (ptrV b) (by rw [List.getElem?_map, g1]; rfl)
        have n2 := entsL_next g2
        have HCALL := Lib.hid (HKM.out j b k g1 g2 A wr HA.out HJR.out)
        have HN2 := Lib.hid n2
        clear hc g1 g2 n2
        unfold ptrV at kk
        go_wp2_with fail
        refine HCALL.out.mono ?_
        rintro e w' ⟨rfl, hJw⟩
        have HJW := Lib.hid hJw
        clear hJw
        go_wp2_with fail
        go_roundg gk
        case measure => omega
        case rel => exact ⟨j + 1, A + (body k).length, by omega, by go_num, by rw [HN2.out, HA.out]; omega, HJW.out⟩
end Go.Proofs.YtgnffkahlniehaaGreat
