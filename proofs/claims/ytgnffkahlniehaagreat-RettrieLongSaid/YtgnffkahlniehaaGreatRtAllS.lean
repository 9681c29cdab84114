/- Proved here: all, under a range over it. -/
import Derived.RangeFuncNested
import Derived.RangeFuncBound
import Derived.RangeFuncCalls
import Derived.RangeFuncLeaves
import Derived.Shelf.Abstract
import Derived.Shelf.RegionOpen
import Derived.WalkKit
import Derived.OwnWalkIn
import Derived.TacticsInMore
import Derived.LoopNIn
import Derived.LoopIn
import Derived.Test.YtgnffkahlniehaaGreatRtAll
namespace Go.Proofs.YtgnffkahlniehaaGreat
open Go Go.RowKit Go.Shelf Go.Proofs.Gs Go.Proofs.Tri Go.Proofs.Rt Go.Proofs.Tp
attribute [local go_sem] Oper.semAt_some

/-- What one round is handed: a message's block, and what stands there. -/
def MsgB (F : Nat → Prop) (w0 : World) : Type := { x : Nat × MsgV // MsgAt F w0 x.1 x.2 ∧ x.2.pay.length ≤ 1000000000 }
abbrev encMsg {F : Nat → Prop} {w0 : World} (x : MsgB F w0) : Array Value := #[.pointer (some ⟨x.1.1, 0, none⟩)]
def msgOf {F : Nat → Prop} {w0 : World} (x : MsgB F w0) : MsgV := x.1.2

/-- What a round keeps. -/
def Keeps (F : Nat → Prop) (w w' : World) : Prop := w.heap.size ≤ w'.heap.size ∧ Same F w w'
theorem Keeps.trans {F : Nat → Prop} {a b c : World} (h : Keeps F a b) (k : Keeps F b c) : Keeps F a c :=
  ⟨Nat.le_trans h.1 k.1, fun i hi hF => (k.2 i (Nat.lt_of_lt_of_le hi h.1) hF).trans (h.2 i hi hF)⟩
theorem Keeps.refl (F : Nat → Prop) (w : World) : Keeps F w w := ⟨Nat.le_refl _, fun _ _ _ => rfl⟩

theorem roundIn_wide {n m : Nat} {P : Program} {l : Nat} {f : FuncId} {tmps : Array Value} {assign body : Code} {w : World} {R : Ending → World → Prop} (h : RoundIn Fence.wide n P l f tmps assign body w R) : RoundIn Fence.wide m P l f tmps assign body w R :=
  ⟨trivial, fun c cs _ => h.2 c cs (room_wide _)⟩

theorem skip_about {F : FuncId → Prop} : ∀ f : FuncId, (none : Option FuncId) = some f → F f := fun _ h => nomatch h
def intOf26 : Value → Int | .int _ q => q | _ => 0

/-- What a walk over all nodes from here on comes to. -/
def AllPost {F : Nat → Prop} {w0 : World} (J Jx : List (MsgB F w0) → World → Prop) (t : Tree) (pre : List (MsgB F w0)) (e : Ending) (W' : World) : Prop :=
  (e = .returned (.bool true) ∧ Keeps F w0 W' ∧ ∃ xs, xs.map msgOf = vals (body t) ∧ J (pre ++ xs) W') ∨ (e = .returned (.bool false) ∧ ∃ xs, Jx (pre ++ xs) W')

set_option maxHeartbeats 4000000 in
set_option maxRecDepth 100000 in
theorem all_stops {F : Nat → Prop} {w0 : World} (l N : Nat) (J Jx : List (MsgB F w0) → World → Prop)
    (hY : ∀ pre x W1, J pre W1 → pre.length < N → YieldAt Fence.wide 0 Tryz.prog l (encMsg x) W1 fun e W' => (e = .returned (.bool true) ∧ J (pre ++ [x]) W' ∧ Keeps F W1 W') ∨ (e = .returned (.bool false) ∧ Jx (pre ++ [x]) W')) :
    ∀ (t : Tree) (p : Nat) (pre : List (MsgB F w0)) (W : World), NodeAt F w0 p t → nodes t ≤ 100000000 → (∀ e ∈ body t, e.2.pay.length ≤ 1000000000) → Keeps F w0 W → J pre W → pre.length + (body t).length ≤ N →
      CallsIn Fence.wide 3 Tryz.prog 65 #[.pointer (some ⟨p, 0, none⟩), .func (.yield l) #[] #[]] W (AllPost J Jx t pre) := by
  refine Tr.ind (fun lv v ks ih => ?_)
  intro p pre W h hn hpay hK hJ hN
  obtain ⟨sv, mv, kv, bs, O⟩ := h.open
  have hl := O.hl
  rw [Tr.kids_node] at hl
  have hkids := nodes_kids (Tr.node lv v ks)
  rw [Tr.kids_node] at hkids
  have hbody : (body (Tr.node lv v ks)).length = (ownE v : List (List ByteArray × MsgV)).length + (entsL ks).length := by unfold body; rw [List.length_append]; rfl
  rw [hkids] at hn
  rw [hbody] at hN
  have c1 := (O.same hK.2).c1
  have hkm : ∀ j b k, bs[j]? = some b → ks[j]? = some k → ∀ pre' W', pre'.length + (body k).length ≤ N → Keeps F w0 W' → J pre' W' →
      CallsIn Fence.wide 2 Tryz.prog 65 #[.pointer (some ⟨b, 0, none⟩), .func (.yield l) #[] #[]] W' (AllPost J Jx k pre') := fun j b k h1 h2 pre' W' hlen hK' hJ' => by
    have hmem := List.mem_of_getElem? h2
    refine callsIn_wide.2 (callsIn_wide.1 (ih k hmem b pre' W' (O.hn j b k h1 h2) (by have := nodesL_next h2; have := nodesL_take ks (j + 1); omega) (fun e he => ?_) hK' hJ' hlen))
    refine hpay (k.lv ++ e.1, e.2) (List.mem_append_right _ (entsL_mem.2 ⟨k, by rw [Tr.kids_node]; exact hmem, ?_⟩))
    rw [ents_body]
    exact List.mem_map.2 ⟨e, he, rfl⟩
  have hmv : (mv = .pointer none ∧ v = none) ∨ (∃ x : MsgB F w0, mv = .pointer (some ⟨x.1.1, 0, none⟩) ∧ v = some (msgOf x)) := by
    have hm := O.hm
    cases v with
    | none => exact .inl ⟨hm, rfl⟩
    | some m =>
      obtain ⟨b, e, hmm⟩ := hm
      exact .inr ⟨⟨(b, m), hmm, hpay ([], m) (List.mem_append_left _ (by simp [ownE, Tr.val_node]))⟩, e, rfl⟩
  have HKM := Lib.hid hkm
  have HKW := Lib.hid hK
  have hlen := Lib.hid hl
  have HJ := Lib.hid hJ
  obtain ⟨n, hnb⟩ : ∃ n, bs.length = n := ⟨_, rfl⟩
  have HNB := Lib.hid hnb
  have hcell : ∃ a cap, kv = .slice a n cap ∧ (n = 0 ∨ ∃ b off, a = some ⟨b, off, none⟩ ∧ ∀ W', Same F w0 W' → ∀ j u, (bs.map ptrV)[j]? = some u → W'.cell? ⟨b, off + j, none⟩ = some u) := by
    rcases RowAt.cases O.hk with ⟨h8, _, a, cap, e, _⟩ | ⟨_, b, off, cap, e, _, _, _, h⟩
    · exact ⟨a, cap, by rw [e, ← hnb, h8], .inl (by omega)⟩
    · exact ⟨_, cap, by rw [e, hnb], .inr ⟨b, off, rfl, fun W' hs j u hu => hs.cell (O.hkf.2 b (by rw [e]; rfl)) (h j u hu)⟩⟩
  obtain ⟨a, cap, rfl, hcell⟩ := hcell
  have HCELL := Lib.hid hcell
  have hc2 : ∀ W', Keeps F w0 W' → W'.cell? ⟨p, 2, none⟩ = some (.slice a n cap) := fun W' hs => (O.same hs.2).c2
  have HC2 := Lib.hid hc2
  have hnT : n ≤ 100000000 := by have := nodesL_len ks; omega
  have HY := Lib.hid hY
  have HN := Lib.hid hN
  have hvals : vals (body (Tr.node lv v ks)) = vals (ownE v : List (List ByteArray × MsgV)) ++ vals (entsL ks) := vals_node
  have HVALS := Lib.hid hvals
  have hnext : ∀ j k, ks[j]? = some k → vals (entsL (ks.take (j + 1))) = vals (entsL (ks.take j)) ++ vals (body k) := fun j k g => by
    rw [List.take_add_one, g, entsL_app]
    unfold vals
    rw [List.map_append]
    congr 1
    show vals (entsL [k]) = _
    rw [entsL_cons, entsL_nil, List.append_nil]
    exact vals_ents k
  have HNEXT := Lib.hid hnext
  clear O h ih hl hkids hbody hcell hnb hkm hJ hc2 hY hn hpay hN hvals hnext hK
  rcases hmv with ⟨rfl, rfl⟩ | ⟨x, rfl, rfl⟩
  case inl =>
    have kk2 := HC2.out _ HKW.out
    refine callsIn_of_wp Tryz.func65 rfl trivial ?_ rfl
    simp only [Tryz.ntmps65, List.size_toArray, List.length_cons, List.length_nil, Nat.reduceAdd, Nat.reduceSub, Array.replicate_succ, Array.replicate_zero, List.push_toArray, List.append_toArray, List.nil_append, List.cons_append]
    gi_wp2_with (with_reducible refine And.intro skip_about ?_)
    gi_loopw [6, 26] (fun k6 i6 wr => ∃ (j : Nat) (xs : List (MsgB F w0)), j ≤ n ∧ i6 = .int .i64 (j : Nat) ∧ xs.map msgOf = vals (entsL (ks.take j)) ∧ Keeps F w0 wr ∧ J (pre ++ xs) wr)
      (fun _ i6 _ => n - (intOf26 i6).toNat)
    case atStart => exact ⟨0, [], Nat.zero_le _, rfl, rfl, HKW.out, by rw [List.append_nil]; exact HJ.out⟩
    case round =>
      obtain ⟨j, xs, hj, rfl, hxs, hKr, hJr⟩ := hrel
      have HXS := Lib.hid hxs
      have HKR := Lib.hid hKr
      have HJR := Lib.hid hJr
      clear hxs hKr hJr
      by_cases hjn : j = n
      · subst hjn
        have hd : decide ((j : Int) < (j : Int)) = false := decide_eq_false (by omega)
        have hfin : (xs).map msgOf = vals (body (Tr.node lv none ks)) := by
          rw [HVALS.out, HXS.out, List.take_of_length_le (by have := HNB.out; have := hlen.out; omega)]
          rfl
        have HFIN := Lib.hid hfin
        clear hfin
        gi_wp2_with (with_reducible refine And.intro skip_about ?_)
        go_ret
        exact Or.inl ⟨rfl, HKR.out, xs, HFIN.out, by first | exact HJR.out | (rw [← List.append_assoc]; exact HJR.out)⟩
      · have hlt : j < n := by omega
        have hd : decide ((j : Int) < (n : Int)) = true := decide_eq_true (by omega)
        have hb1 : (0 : Int) ≤ (j : Int) := by omega
        have hb2 : (j : Int) < (n : Int) := by omega
        obtain ⟨b, g1⟩ : ∃ b, bs[j]? = some b := ⟨_, List.getElem?_eq_getElem (show j < bs.length by have := HNB.out; omega)⟩
        obtain ⟨k, g2⟩ : ∃ k, ks[j]? = some k := ⟨_, List.getElem?_eq_getElem (show j < ks.length by have := HNB.out; have := hlen.out; omega)⟩
        obtain ⟨cb, off, rfl, hc⟩ := HCELL.out.resolve_left (by omega)
        have kk := hc _ HKR.out.2 j (ptrV b) (by rw [List.getElem?_map, g1]; rfl)
        have hlen2 : (pre ++ xs).length + (body k).length ≤ N := by
          have e1 := congrArg List.length HXS.out
          rw [List.length_map, vals_length] at e1
          have e2 := entsL_next g2
          have e3 := entsL_take ks (j + 1)
          have e4 := HN.out
          simp only [List.length_append, List.length_cons, List.length_nil, ownE, Tr.val_node] at e4 ⊢
          omega
        have HCALL := Lib.hid (HKM.out j b k g1 g2 (pre ++ xs) wr hlen2 HKR.out HJR.out)
        have HNX := Lib.hid (HNEXT.out j k g2)
        clear hc g1 g2 hlen2
        unfold ptrV at kk
        gi_wp2_with (with_reducible refine And.intro skip_about ?_)
        refine ⟨trivial, ?_⟩
        refine HCALL.out.mono ?_
        rintro e W3 (⟨rfl, hK3, ys, hys, hJ3⟩ | ⟨rfl, ys, hx3⟩)
        · have HK3 := Lib.hid hK3
          have HYS := Lib.hid hys
          have HJ3 := Lib.hid hJ3
          clear hK3 hys hJ3
          gi_wp2_with (with_reducible refine And.intro skip_about ?_)
          go_roundw
          case rel => exact ⟨j + 1, xs ++ ys, by omega, by go_num, by rw [List.map_append, HXS.out, HYS.out, HNX.out], HK3.out, by rw [← List.append_assoc]; exact HJ3.out⟩
          case measure => simp [intOf26]; omega
        · have HX3 := Lib.hid hx3
          clear hx3
          gi_wp2_with (with_reducible refine And.intro skip_about ?_)
          repeat (first | rw [Exit.noGoto_ret] | simp only [Exit.inBlock] | simp only [Exit.then])
          go_ret
          exact Or.inr ⟨rfl, xs ++ ys, by first | (rw [← List.append_assoc]; exact HX3.out) | (have h := HX3.out; simpa [List.append_assoc] using h)⟩
  case inr =>
    obtain ⟨fn, tmps, assign, body', hy, hR⟩ := HY.out pre x W HJ.out (by have := HN.out; simp only [ownE, Tr.val_node, List.length_cons, List.length_nil] at this; omega)
    have HR := Lib.hid (roundIn_wide (m := 2) hR)
    clear hR
    refine callsIn_of_wp Tryz.func65 rfl trivial ?_ rfl
    simp only [Tryz.ntmps65, List.size_toArray, List.length_cons, List.length_nil, Nat.reduceAdd, Nat.reduceSub, Array.replicate_succ, Array.replicate_zero, List.push_toArray, List.append_toArray, List.nil_append, List.cons_append]
    gi_wp2_with (with_reducible refine And.intro skip_about ?_)
    with_reducible refine RoundIn.mono HR.out ?_
    rintro e W1 (⟨rfl, hJ1, hK1⟩ | ⟨rfl, hx1⟩)
    · have HJ1 := Lib.hid hJ1
      have HK1 := Lib.hid (HKW.out.trans hK1)
      have kk2 := HC2.out _ HK1.out
      clear hJ1 hK1 hy
      gi_wp2_with (with_reducible refine And.intro skip_about ?_)
      gi_loopw [6, 26] (fun k6 i6 wr => ∃ (j : Nat) (xs : List (MsgB F w0)), j ≤ n ∧ i6 = .int .i64 (j : Nat) ∧ xs.map msgOf = vals (entsL (ks.take j)) ∧ Keeps F w0 wr ∧ J ((pre ++ [x]) ++ xs) wr)
        (fun _ i6 _ => n - (intOf26 i6).toNat)
      case atStart => exact ⟨0, [], Nat.zero_le _, rfl, rfl, HK1.out, by rw [List.append_nil]; exact HJ1.out⟩
      case round =>
        obtain ⟨j, xs, hj, rfl, hxs, hKr, hJr⟩ := hrel
        have HXS := Lib.hid hxs
        have HKR := Lib.hid hKr
        have HJR := Lib.hid hJr
        clear hxs hKr hJr
        by_cases hjn : j = n
        · subst hjn
          have hd : decide ((j : Int) < (j : Int)) = false := decide_eq_false (by omega)
          have hfin : (([x] ++ xs)).map msgOf = vals (body (Tr.node lv (some (msgOf x)) ks)) := by
            rw [HVALS.out, List.map_append, HXS.out, List.take_of_length_le (by have := HNB.out; have := hlen.out; omega)]
            rfl
          have HFIN := Lib.hid hfin
          clear hfin
          gi_wp2_with (with_reducible refine And.intro skip_about ?_)
          go_ret
          exact Or.inl ⟨rfl, HKR.out, ([x] ++ xs), HFIN.out, by first | exact HJR.out | (rw [← List.append_assoc]; exact HJR.out)⟩
        · have hlt : j < n := by omega
          have hd : decide ((j : Int) < (n : Int)) = true := decide_eq_true (by omega)
          have hb1 : (0 : Int) ≤ (j : Int) := by omega
          have hb2 : (j : Int) < (n : Int) := by omega
          obtain ⟨b, g1⟩ : ∃ b, bs[j]? = some b := ⟨_, List.getElem?_eq_getElem (show j < bs.length by have := HNB.out; omega)⟩
          obtain ⟨k, g2⟩ : ∃ k, ks[j]? = some k := ⟨_, List.getElem?_eq_getElem (show j < ks.length by have := HNB.out; have := hlen.out; omega)⟩
          obtain ⟨cb, off, rfl, hc⟩ := HCELL.out.resolve_left (by omega)
          have kk := hc _ HKR.out.2 j (ptrV b) (by rw [List.getElem?_map, g1]; rfl)
          have hlen2 : ((pre ++ [x]) ++ xs).length + (body k).length ≤ N := by
            have e1 := congrArg List.length HXS.out
            rw [List.length_map, vals_length] at e1
            have e2 := entsL_next g2
            have e3 := entsL_take ks (j + 1)
            have e4 := HN.out
            simp only [List.length_append, List.length_cons, List.length_nil, ownE, Tr.val_node] at e4 ⊢
            omega
          have HCALL := Lib.hid (HKM.out j b k g1 g2 ((pre ++ [x]) ++ xs) wr hlen2 HKR.out HJR.out)
          have HNX := Lib.hid (HNEXT.out j k g2)
          clear hc g1 g2 hlen2
          unfold ptrV at kk
          gi_wp2_with (with_reducible refine And.intro skip_about ?_)
          refine ⟨trivial, ?_⟩
          refine HCALL.out.mono ?_
          rintro e W3 (⟨rfl, hK3, ys, hys, hJ3⟩ | ⟨rfl, ys, hx3⟩)
          · have HK3 := Lib.hid hK3
            have HYS := Lib.hid hys
            have HJ3 := Lib.hid hJ3
            clear hK3 hys hJ3
            gi_wp2_with (with_reducible refine And.intro skip_about ?_)
            go_roundw
            case rel => exact ⟨j + 1, xs ++ ys, by omega, by go_num, by rw [List.map_append, HXS.out, HYS.out, HNX.out], HK3.out, by rw [← List.append_assoc]; exact HJ3.out⟩
            case measure => simp [intOf26]; omega
          · have HX3 := Lib.hid hx3
            clear hx3
            gi_wp2_with (with_reducible refine And.intro skip_about ?_)
            repeat (first | rw [Exit.noGoto_ret] | simp only [Exit.inBlock] | simp only [Exit.then])
            go_ret
            exact Or.inr ⟨rfl, ([x] ++ xs) ++ ys, by first | (rw [← List.append_assoc]; exact HX3.out) | (have h := HX3.out; simpa [List.append_assoc] using h)⟩
    · have HX1 := Lib.hid hx1
      clear hx1 hy
      gi_wp2_with (with_reducible refine And.intro skip_about ?_)
      repeat (first | rw [Exit.noGoto_ret] | simp only [Exit.inBlock] | simp only [Exit.then])
      go_ret
      exact Or.inr ⟨rfl, [x], HX1.out⟩
end Go.Proofs.YtgnffkahlniehaaGreat
