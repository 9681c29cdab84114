/- Proved here: the law's laid. -/
import Derived.Test.YtgnffkahlniehaaRtOf
import Derived.Test.YtgnffkahlniehaaRtTPut
import Derived.Test.YtgnffkahlniehaaRtBound
import Derived.Test.YtgnffkahlniehaaRtFound
namespace Go.Proofs.Ytgnffkahlniehaa
open Go Go.RowKit Go.Proofs.Gs Go.Proofs.Tri Go.Proofs.Rt Go.Proofs.Tp Go.Proofs.Rg

/-- A trie in memory, by what it holds. -/
structure Grove (F : Nat → Prop) (w : World) (tb : Nat) (t : Tree) (B : Ents) : Prop where
  tr : TrieAt F w tb t
  lv : t.lv = []
  body : body t = B
  keyed : Keyed B

def putTree (t : Tree) (m : MsgV) : Tree := if takes m = true then put ltB t (levels m.topic) m else t

theorem grove_one {F1 F2 : Nat → Prop} {w1 w2 : World} {b1 b2 : Nat} {t1 t2 : Tree} {B : Ents} (h1 : Grove F1 w1 b1 t1 B) (h2 : Grove F2 w2 b2 t2 B) : t1 = t2 :=
  trie_ext linB _ t1 t2 (Nat.le_refl _) h1.tr.forest h2.tr.forest (h1.lv.trans h2.lv.symm) (h1.body.trans h2.body.symm)

theorem Grove.below {F : Nat → Prop} {w w' : World} {tb : Nat} {t : Tree} {B : Ents} (h : Grove F w tb t B) (hb : Below w.heap.size w w') : Grove F w' tb t B := ⟨h.tr.below hb, h.lv, h.body, h.keyed⟩

theorem TrieAt.grown {F : Nat → Prop} {w w' : World} {tb ub : Nat} {t : Tree} (h : TrieAt F w ub t) (hg : w.grownBy w' (some tb)) (h1 : tb ≠ ub) (h2 : ¬ F tb) : TrieAt F w' ub t := by
  obtain ⟨p, hp, hn⟩ := h.root
  have hlt := h.lt
  have hk : ∀ k, k < w.heap.size → k ≠ tb → w'.heap[k]? = w.heap[k]? := fun k hk hne => hg.block k hk (fun e => hne (by injection e))
  have hs : Same F w w' := fun k hk' hF => hk k hk' (fun e => h2 (e ▸ hF))
  refine ⟨⟨p, ?_, NodeAt.same hs hn⟩, ?_, h.out, fun x hx => Nat.lt_of_lt_of_le (h.old x hx) hg.size, h.forest, h.lim⟩
  · unfold World.cell? at hp ⊢
    rw [hk ub hlt (Ne.symm h1)]
    exact hp
  · have := h.fit
    unfold World.frozen? at this ⊢
    rw [hk ub hlt (Ne.symm h1)]
    exact this
theorem Grove.grown {F : Nat → Prop} {w w' : World} {tb ub : Nat} {t : Tree} {B : Ents} (h : Grove F w ub t B) (hg : w.grownBy w' (some tb)) (h1 : tb ≠ ub) (h2 : ¬ F tb) : Grove F w' ub t B := ⟨h.tr.grown hg h1 h2, h.lv, h.body, h.keyed⟩

theorem tput_any {F G : Nat → Prop} {w : World} {tb : Nat} {t : Tree} {B : Ents} (T : Grove F w tb t B) (hsh : ∀ e ∈ B, e.2.pay.length ≤ 1000000000) (hcount : B.length < 1000000) {v : Value} {m : MsgV} (hv : MsgVal G w v m) (hs : m.topic.size ≤ 1000000000) (hpay : m.pay.length ≤ 1000000000) :
    Calls Try.prog 9 #[.pointer (some ⟨tb, 0, none⟩), v] w fun e w' => ∃ n : Int, (takes m = true ↔ n = 0) ∧ e = .returned (.tuple #[.bool (takes m && (get (levels m.topic) B).isSome), .int .i64 n]) ∧ Grove (Since F w w') w' tb (putTree t m) (putB B m) ∧ w.grownBy w' (some tb) := by
  have hb := T.body
  subst hb
  cases hm : takes m with
  | false =>
    refine (tput_no T.tr hv hs hm).mono ?_
    rintro e w' ⟨⟨n, hn, rfl⟩, hp⟩
    have e1 : putTree t m = t := by unfold putTree; rw [if_neg (by rw [hm]; simp)]
    have e2 : putB (Tri.body t) m = Tri.body t := by unfold putB; rw [if_neg (by rw [show taken m = takes m from rfl, hm]; simp)]
    refine ⟨n, by simp [hn], by simp, ?_, hp.2⟩
    rw [e1, e2]
    exact ⟨hp.1, T.lv, rfl, T.keyed⟩
  | true =>
    refine (tput_yes T.tr hsh hcount hv hs hpay hm).mono ?_
    rintro e w' ⟨rfl, hp⟩
    have e1 : putTree t m = put ltB t (levels m.topic) m := by unfold putTree; rw [if_pos hm]
    have hspec := put_spec linB m (levels m.topic).length (levels m.topic) t (Nat.le_refl _) T.tr.forest
    refine ⟨0, by simp, by simp, ?_, hp.2⟩
    have e2 : putB (Tri.body t) m = Tri.body (put ltB t (levels m.topic) m) := by unfold putB; rw [if_pos (by rw [show taken m = takes m from rfl, hm]), hspec.2.1]
    rw [e1]
    exact ⟨hp.1, by rw [hspec.1]; exact T.lv, e2.symm, T.keyed.put m⟩

theorem tdrop_grove {F : Nat → Prop} {w : World} {tb : Nat} {t : Tree} {B : Ents} (T : Grove F w tb t B) (hsh : ∀ e ∈ B, e.2.pay.length ≤ 1000000000) (s : ByteArray) (hs : s.size ≤ 1000000000) :
    Calls Try.prog 11 #[.pointer (some ⟨tb, 0, none⟩), .string s] w fun e w' => ∃ t', e = .returned (.bool (get (levels s) B).isSome) ∧ Grove (Since F w w') w' tb t' (era (levels s) B) ∧ (t' = if (get (levels s) B).isSome = true then drp ltB t (levels s) else t) ∧ w.grownBy w' (some tb) := by
  have hb := T.body
  subst hb
  refine (tdrop_any T.tr hsh s hs).mono ?_
  rintro e w' ⟨rfl, hp⟩
  refine ⟨_, rfl, ?_, rfl, hp.2⟩
  cases hg : get (levels s) (Tri.body t) with
  | none =>
    have h1 := hp.1
    rw [hg] at h1
    rw [era_get_none hg]
    exact ⟨h1, T.lv, rfl, T.keyed⟩
  | some m =>
    have h1 := hp.1
    rw [hg] at h1
    obtain ⟨d1, d2, d3⟩ := drp_spec linB (levels s).length (levels s) t (Nat.le_refl _) T.tr.forest (by rw [hg]; rfl)
    exact ⟨h1, d1.trans T.lv, d2, T.keyed.era _⟩

theorem grove_new {w' : World} {F : Nat → Prop} {tb : Nat} (T : TrieAt F w' tb (.node [] none [])) : Grove F w' tb (.node [] none []) [] := ⟨T, rfl, rfl, Keyed.nil⟩

theorem smallB_spec {l : List MsgV} (h : smallB l = true) : l.length ≤ 60 ∧ ∀ m ∈ l, m.topic.size ≤ 60000 ∧ m.pay.length ≤ 60000 := by
  unfold smallB at h
  simp only [Bool.and_eq_true, decide_eq_true_eq] at h
  refine ⟨h.1, fun m hm => ?_⟩
  obtain ⟨i, hi, rfl⟩ := List.getElem_of_mem hm
  have h1 := weight_take l i
  have h2 := weight_mono l (i + 1)
  rw [List.getElem?_eq_getElem hi] at h1
  simp at h1
  omega

theorem body_pays {l : List MsgV} (h : ∀ m ∈ l, m.pay.length ≤ 60000) : ∀ e ∈ bodyOf l, e.2.pay.length ≤ 1000000000 := fun e he => by have := h e.2 (body_mem he); omega

set_option maxHeartbeats 2000000 in
set_option maxRecDepth 100000 in
theorem laid_any {F : Nat → Prop} {w : World} {v : Value} {l : List MsgV} (h : MsgsAt F w v l) (hl : l.length ≤ 60) (hs : ∀ m ∈ l, m.topic.size ≤ 60000 ∧ m.pay.length ≤ 60000) :
    Calls Try.prog 7 #[v] w fun e w' => ∃ tb FT t, e = .returned (.tuple #[.pointer (some ⟨tb, 0, none⟩), .bool true]) ∧ Grove FT w' tb t (bodyOf l) ∧ w.heap.size ≤ tb ∧ (∀ x, FT x → w.heap.size ≤ x) ∧ Below w.heap.size w w' := by
  obtain ⟨xs, hr⟩ : ∃ xs, RowAt w 4 v l.length xs := by obtain ⟨pvs, _, h, _⟩ := h; exact ⟨_, h.1⟩
  obtain ⟨_, a, cap, rfl, hcap, hmax, _⟩ := hr
  unfold maxLen at hmax
  have H := Lib.hid h
  have HS := Lib.hid hs
  obtain ⟨n, hn⟩ : ∃ n, l.length = n := ⟨_, rfl⟩
  have HN := Lib.hid hn
  rw [hn] at hcap hl H ⊢
  clear h hs hn
  go_enter Try.func7, Try.ntmps7
  go_wp2_with fail
  refine (new_any w).mono ?_
  rintro e w1 ⟨rfl, hT, hb1⟩
  have HG := Lib.hid (grove_new hT)
  have HB1 := Lib.hid hb1
  clear hT hb1
  obtain ⟨tb, htb⟩ : ∃ tb, w.heap.size + 1 = tb := ⟨_, rfl⟩
  have hlow : w.heap.size ≤ tb := by omega
  rw [htb] at HG ⊢
  clear htb
  go_wp2_with fail
  go_loopg [5, 6] n (fun g i5 i6 wr => ∃ (j : Nat) (FT : Nat → Prop) (t : Tree), j + g = n ∧ i6 = .int .i64 (j : Nat) ∧ i5 = .bool true ∧ Grove FT wr tb t (bodyOf (l.take j)) ∧ (∀ x, FT x → w.heap.size ≤ x) ∧ Below w.heap.size w wr)
  case atStart => exact ⟨0, _, _, by omega, rfl, rfl, HG.out, fun x hx => by omega, HB1.out⟩
  case round =>
    obtain ⟨j, FT, t, hjg, rfl, rfl, hgr, hFT, hbw⟩ := hrel
    have HGR := Lib.hid hgr
    have HFT := Lib.hid hFT
    have HBW := Lib.hid hbw
    clear hgr hFT hbw
    cases gk with
    | zero =>
      obtain rfl : j = n := by omega
      have hd : decide ((j : Int) < (j : Int)) = false := decide_eq_false (by omega)
      have hg := HGR.out
      rw [List.take_of_length_le (by have := HN.out; omega)] at hg
      have HGF := Lib.hid hg
      clear hg
      go_wp2_with fail
      go_ret2
      exact ⟨tb, FT, t, rfl, HGF.out, hlow, HFT.out, HBW.out⟩
    | succ gk =>
      have hjn : j < n := by omega
      have hd : decide ((j : Int) < (n : Int)) = true := decide_eq_true (by omega)
      have hb1 : (0 : Int) ≤ (j : Int) := by omega
      have hb2 : (j : Int) < (n : Int) := by omega
      obtain ⟨m, hm⟩ : ∃ m, l[j]? = some m := ⟨_, List.getElem?_eq_getElem (show j < l.length by have := HN.out; omega)⟩
      obtain ⟨b, off, rfl⟩ : ∃ b off, a = some ⟨b, off, none⟩ := by
        obtain ⟨pvs, _, h2, _⟩ := H.out
        rcases RowAt.cases h2.1 with ⟨h0, _⟩ | ⟨_, b', off', cap', e, _⟩
        · have := HN.out; omega
        · injection e with e1 e2 e3
          exact ⟨b', off', e1⟩
      have hM := H.out
      rw [← HN.out] at hM
      obtain ⟨pv, k0, k1, k2, k3, M1⟩ := (hM.keep (Same.below HBW.out)).one hm
      rw [← Nat.add_assoc] at k1 k2 k3
      obtain ⟨hs1, hs2⟩ := HS.out m (List.mem_of_getElem? hm)
      have HM1 := Lib.hid M1
      have HPUT := Lib.hid (tput_any HGR.out (fun e he => by have := (HS.out e.2 (List.mem_of_mem_take (body_mem he))).2; omega) (by have := body_length (l.take j); rw [List.length_take] at this; omega) M1 (by omega) (by omega))
      have htk : bodyOf (l.take (j + 1)) = putB (bodyOf (l.take j)) m := by
        unfold bodyOf
        rw [List.take_add_one, hm, List.foldl_append]
        rfl
      have HTK := Lib.hid htk
      clear hM M1 hm htk
      go_wp2_with fail
      refine HPUT.out.mono ?_
      rintro e w2 ⟨q, _, rfl, hg2, hgr2⟩
      rw [← HTK.out] at hg2
      have hb2' : Below w.heap.size w w2 := HBW.out.grown hgr2 HBW.out.size (fun k e => by injection e with e; omega)
      have HG2 := Lib.hid hg2
      have HB2 := Lib.hid hb2'
      have HF2 := Lib.hid (show ∀ x, Since FT wr w2 x → w.heap.size ≤ x from fun x hx => by
        rcases hx with hx | hx
        · exact HFT.out x hx
        · have := HBW.out.size; omega)
      clear hg2 hgr2 hb2'
      go_wp2_with fail
      refine (bound_any HG2.out.tr).mono ?_
      rintro e w3 ⟨rfl, rfl⟩
      go_wp2_with fail
      go_roundg gk
      case measure => omega
      case rel => exact ⟨j + 1, _, _, by omega, by go_num, rfl, HG2.out, HF2.out, HB2.out⟩
end Go.Proofs.Ytgnffkahlniehaa
