/- Proved here: the law's known. -/
import Derived.Test.YtgnffkahlniehaaGreatRtKnownP
import Derived.Test.YtgnffkahlniehaaGreatRtSameSh
import Derived.Test.YtgnffkahlniehaaGreatRtSameL
namespace Go.Proofs.YtgnffkahlniehaaGreat
open Go Go.RowKit Go.Proofs.Gs Go.Proofs.Tri Go.Proofs.Rt Go.Proofs.Tp Go.Proofs.Rg

def texts4 : List ByteArray := [sB, sAB, sD, sA]
theorem four_at {j : Nat} {s : ByteArray} (h : texts4[j]? = some s) : four[j]? = some (ofM s) := by
  match j, h with
  | 0, h => injection h with h; subst h; rfl
  | 1, h => injection h with h; subst h; rfl
  | 2, h => injection h with h; subst h; rfl
  | 3, h => injection h with h; subst h; rfl
  | j + 4, h => simp [texts4] at h
theorem texts_small {j : Nat} {s : ByteArray} (h : texts4[j]? = some s) : s.size ≤ 100 := by
  match j, h with
  | 0, h => injection h with h; subst h; decide
  | 1, h => injection h with h; subst h; decide
  | 2, h => injection h with h; subst h; decide
  | 3, h => injection h with h; subst h; decide
  | j + 4, h => simp [texts4] at h
theorem ofM_pay (s : ByteArray) : (ofM s).pay.length = s.size := by simp [ofM]
theorem four_pays : ∀ m ∈ four, m.pay.length ≤ 60000 := by
  intro m hm
  simp [four] at hm
  rcases hm with rfl | rfl | rfl | rfl <;> (rw [ofM_pay]; decide)

/-- What All of a trie gives to given. -/
theorem given_all {F : Nat → Prop} {w : World} {tb bx : Nat} {t : Tree} {B : Ents} (T : Grove F w tb t B) (hsh : ∀ e ∈ B, e.2.pay.length ≤ 1000000000) (hlen : B.length ≤ 1000000) (hbx : w.cell? ⟨bx, 0, none⟩ = some (.pointer (some ⟨tb, 0, none⟩))) :
    Calls Tryz.prog 14 #[.func (.func 47) #[] #[.pointer (some ⟨bx, 0, none⟩)], .int .i64 0] w fun e w' => ∃ v, e = .returned (.tuple #[v, .bool true]) ∧ MsgsAt (fun x => w.heap.size ≤ x ∧ x < w'.heap.size) w' v (vals B) ∧ Below w.heap.size w w' := by
  have hb := T.body
  subst hb
  exact given_any (all1_gives T.tr hsh hbx (Nat.le_refl _)) (enters_of Tryz.func47 (by kernel_rfl) rfl) (by omega)

theorem given_find {F : Nat → Prop} {w : World} {tb b1 b2 : Nat} {t : Tree} {B : Ents} (T : Grove F w tb t B) (hsh : ∀ e ∈ B, e.2.pay.length ≤ 1000000000) (hlen : B.length ≤ 1000000) (f : ByteArray) (hf : f.size ≤ 1000000000) (h1 : w.cell? ⟨b1, 0, none⟩ = some (.pointer (some ⟨tb, 0, none⟩))) (h2 : w.cell? ⟨b2, 0, none⟩ = some (.string f)) :
    Calls Tryz.prog 14 #[.func (.func 34) #[] #[.pointer (some ⟨b2, 0, none⟩), .pointer (some ⟨b1, 0, none⟩)], .int .i64 0] w fun e w' => ∃ v, e = .returned (.tuple #[v, .bool true]) ∧ MsgsAt (fun x => w.heap.size ≤ x ∧ x < w'.heap.size) w' v (vals (B.filter (fun e => matchT f e.2.topic))) ∧ Below w.heap.size w w' := by
  have hb := T.body
  subst hb
  rw [← findV_eq T.tr.forest T.keyed]
  refine given_any (find1_gives T.tr hsh f hf h1 h2 T.keyed (N := (findV f t).length) (Nat.le_refl _)) (enters_of Tryz.func34 (by kernel_rfl) rfl) ?_
  rw [findV_eq T.tr.forest T.keyed]
  unfold vals
  rw [List.length_map]
  have := List.length_filter_le (fun e : List ByteArray × MsgV => matchT f e.2.topic) (Tri.body t)
  omega

theorem MsgsAt.slice {F : Nat → Prop} {w : World} {v : Value} {ms : List MsgV} (h : MsgsAt F w v ms) : ∃ a cap, v = .slice a ms.length cap ∧ ms.length ≤ cap ∧ cap ≤ 9223372036854775807 := by
  obtain ⟨pvs, _, ⟨⟨_, a, cap, e, h1, h2, _⟩, _⟩, _⟩ := h
  exact ⟨a, cap, e, h1, h2⟩
theorem MsgsAt.some {F : Nat → Prop} {w : World} {v : Value} {ms : List MsgV} (h : MsgsAt F w v ms) (hp : 0 < ms.length) : ∃ b off cap, v = .slice (some ⟨b, off, none⟩) ms.length cap ∧ ms.length ≤ cap ∧ cap ≤ 9223372036854775807 := by
  obtain ⟨pvs, _, h2, _⟩ := h
  rcases RowAt.cases h2.1 with ⟨h0, _⟩ | ⟨_, b, off, cap, e, h1, h2, _⟩
  · omega
  · exact ⟨b, off, cap, e, h1, h2⟩

/-- A row of messages, laid down at once. -/
theorem msgs_alloc {F : Nat → Prop} {u : World} {ms : List MsgV} {pvs : List Value} (hl : pvs.length = ms.length) (hm : ms.length ≤ maxLen) (h : ∀ (i : Nat) (m : MsgV) (pv : Value), ms[i]? = some m → pvs[i]? = some pv → RowF F u 1 pv m.pay.length (payCells m.pay)) (t : TypeId) :
    MsgsAt (fun x => F x ∨ x = u.heap.size) (u.alloc (.cells (msgRow ms pvs).toArray t)) (.slice (some ⟨u.heap.size, 0, none⟩) ms.length ms.length) ms := by
  have hb : Below u.heap.size u (u.alloc (.cells (msgRow ms pvs).toArray t)) := (Below.refl _ _).alloc (Nat.le_refl _) _
  refine ⟨pvs, hl, ⟨⟨msgRow_length hl, _, _, rfl, Nat.le_refl _, hm, .inr ⟨u.heap.size, 0, rfl, by simp, fun j x hx => ?_⟩⟩, fun b e => .inr (by simpa [Value.ownBlock] using e.symm)⟩, fun i m pv h1 h2 => ((h i m pv h1 h2).keep (Same.below hb)).mono (fun x hx => .inl hx)⟩
  rw [Nat.zero_add]
  refine cell4 (MapKept.heap_alloc u _).1 j x ?_
  simpa using hx

set_option maxHeartbeats 4000000 in
set_option maxRecDepth 100000 in
theorem known_any (w : World) : Calls Tryz.prog 7 #[] w fun e w' => e = .returned (.bool true) ∧ Below w.heap.size w w' := by
  go_enter Tryz.func7, Tryz.ntmps7
  go_wp2_with fail
  refine (new_any w).mono ?_
  rintro e w1 ⟨rfl, hT, hb1⟩
  have HG := Lib.hid (grove_new hT)
  have HB1 := Lib.hid hb1
  clear hT hb1
  obtain ⟨tb, htb⟩ : ∃ tb, w.heap.size + 1 = tb := ⟨_, rfl⟩
  have hlow : w.heap.size ≤ tb := by omega
  rw [htb] at HG ⊢
  clear htb
  go_wp2_with fail
  refine (nodes_any HG.out.tr).mono ?_
  rintro e w2 ⟨rfl, rfl⟩
  have hn1 : ((nodes (Tr.node [] none [] : Tree) : Nat) : Int) = 1 := by rfl
  rw [hn1]
  clear hn1
  go_wp2_with fail
  obtain ⟨W0, hW0⟩ : ∃ W0, w2.alloc (.cells #[.string ⟨#[98]⟩, .string ⟨#[97, 47, 98]⟩, .string ⟨#[36, 97]⟩, .string ⟨#[97]⟩] 9) = W0 := ⟨_, rfl⟩
  have g0 : W0.heap[w2.heap.size]? = some (.cells #[.string ⟨#[98]⟩, .string ⟨#[97, 47, 98]⟩, .string ⟨#[36, 97]⟩, .string ⟨#[97]⟩] 9 (0, 0)) := by rw [← hW0]; exact (MapKept.heap_alloc w2 _).1
  have hb0 : Below w2.heap.size w2 W0 := by rw [← hW0]; exact (Below.refl _ _).alloc (Nat.le_refl _) _
  try rw [hW0]
  have hs0 : w2.heap.size < W0.heap.size := (Array.getElem?_eq_some_iff.1 g0).1
  have HG0 := Lib.hid g0
  have HGR0 := Lib.hid (HG.out.below hb0)
  have HBW0 := Lib.hid (HB1.out.trans (hb0.mono HB1.out.size))
  have hcells : ∀ j s, texts4[j]? = some s → W0.cell? ⟨w2.heap.size, j, none⟩ = some (.string s) := fun j s h => by
    refine cell4 g0 j _ ?_
    match j, h with
    | 0, h => injection h with h; subst h; rfl
    | 1, h => injection h with h; subst h; rfl
    | 2, h => injection h with h; subst h; rfl
    | 3, h => injection h with h; subst h; rfl
    | j + 4, h => simp [texts4] at h
  have HCELLS := Lib.hid hcells
  have HGT := Lib.hid HG.out.tr.lt
  clear g0 hb0 hW0 hcells HG
  have hst : w2.heap.size ≠ tb := by have := HGT.out; omega
  generalize w2.heap.size = sb at hs0 HCELLS HG0 hst ⊢
  go_loopg [3, 4, 5, 20] 4 (fun g i3 i4 i5 i20 wr => ∃ (j : Nat) (FT : Nat → Prop) (t : Tree), j + g = 4 ∧ i20 = .int .i64 (j : Nat) ∧ Grove FT wr tb t (bodyOf (four.take j)) ∧ (∀ x, FT x → w.heap.size ≤ x) ∧ Below w.heap.size w wr ∧ wr.heap[sb]? = W0.heap[sb]?)
  case atStart => exact ⟨0, _, _, by omega, rfl, HGR0.out, fun x hx => by omega, HBW0.out, rfl⟩
  case round =>
    obtain ⟨j, FT, t, hjg, rfl, hgr, hFT, hbw, hsb⟩ := hrel
    have HGR := Lib.hid hgr
    have HFT := Lib.hid hFT
    have HBW := Lib.hid hbw
    have HSB := Lib.hid hsb
    clear hgr hFT hbw hsb
    cases gk with
    | zero =>
      obtain rfl : j = 4 := by omega
      have hd : decide (((4 : Nat) : Int) < 4) = false := by decide
      have hg := HGR.out
      rw [show four.take 4 = four from rfl] at hg
      have HGF := Lib.hid hg
      clear hg
      go_wp2_with fail
      have hlen4 : (bodyOf four).length = 4 := by rw [four_body]; rfl
      have hpays := body_pays four_pays
      refine (tfind_any wr tb _).mono ?_
      rintro e w5 ⟨b1, b2, rfl, h1, h2, hb5⟩
      have HG5 := Lib.hid (HGF.out.below hb5)
      have HB5 := Lib.hid (HBW.out.trans (hb5.mono HBW.out.size))
      clear hb5
      go_wp2_with fail
      refine (given_find HG5.out hpays (by omega) sHash (by decide) h1 h2).mono ?_
      rintro e w6 ⟨v6, rfl, hm6, hb6⟩
      rw [four_hash] at hm6
      have HM6 := Lib.hid hm6
      have HG6 := Lib.hid (HG5.out.below hb6)
      have HB6 := Lib.hid (HB5.out.trans (hb6.mono HB5.out.size))
      clear hm6 hb6 h1 h2
      go_wp2_with fail
      refine (tall_any w6 tb).mono ?_
      rintro e w7 ⟨rfl, h1, hb7⟩
      have HG7 := Lib.hid (HG6.out.below hb7)
      have HM7 := Lib.hid (HM6.out.keep (Same.below hb7))
      have HB7 := Lib.hid (HB6.out.trans (hb7.mono HB6.out.size))
      clear hb7
      go_wp2_with fail
      refine (given_all HG7.out hpays (by omega) h1).mono ?_
      rintro e w8 ⟨v8, rfl, hm8, hb8⟩
      rw [four_all] at hm8
      have HM8 := Lib.hid hm8
      have HN8 := Lib.hid (HM7.out.keep (Same.below hb8))
      have HG8 := Lib.hid (HG7.out.below hb8)
      have HB8 := Lib.hid (HB7.out.trans (hb8.mono HB7.out.size))
      clear hm8 hb8 h1
      go_wp2_with fail
      refine (of_any _ w8 (by decide)).mono ?_
      rintro e u1 ⟨x1, rfl, hx1, hc1⟩
      go_wp2_with fail
      refine (of_any _ u1 (by decide)).mono ?_
      rintro e u2 ⟨x2, rfl, hx2, hc2⟩
      go_wp2_with fail
      refine (of_any _ u2 (by decide)).mono ?_
      rintro e u3 ⟨x3, rfl, hx3, hc3⟩
      obtain ⟨p1, rfl, r1⟩ := hx1
      obtain ⟨p2, rfl, r2⟩ := hx2
      obtain ⟨p3, rfl, r3⟩ := hx3
      obtain ⟨⟨_, ap1, cp1, rfl, _⟩, _⟩ := id r1
      obtain ⟨⟨_, ap2, cp2, rfl, _⟩, _⟩ := id r2
      obtain ⟨⟨_, ap3, cp3, rfl, _⟩, _⟩ := id r3
      have hc12 := hc1.trans (hc2.mono hc1.size)
      have hc13 := hc12.trans (hc3.mono hc12.size)
      have hc23 := hc2.trans (hc3.mono hc2.size)
      have q1 := r1.keep (Same.below hc23)
      have q2 := r2.keep (Same.below hc3)
      have HQ1 := Lib.hid q1
      have HQ2 := Lib.hid q2
      have HQ3 := Lib.hid r3
      have HG9 := Lib.hid (HG8.out.below hc13)
      have HM9 := Lib.hid (HM8.out.keep (Same.below hc13))
      have HN9 := Lib.hid (HN8.out.keep (Same.below hc13))
      have HB9 := Lib.hid (HB8.out.trans (hc13.mono HB8.out.size))
      clear hc1 hc2 hc3 hc12 hc13 hc23 q1 q2 r1 r2 r3
      go_wp2_with fail
      have hrow := msgs_alloc (F := fun _ => True) (u := u3) (ms := [ofM sA, ofM sAB, ofM sB]) (pvs := [.slice ap1 (ofM sA).pay.length cp1, .slice ap2 (ofM sAB).pay.length cp2, .slice ap3 (ofM sB).pay.length cp3]) rfl (by decide) (fun i m pv h1 h2 => by
        match i, h1, h2 with
        | 0, h1, h2 => injection h1 with h1; injection h2 with h2; subst h1; subst h2; exact HQ1.out.mono (fun _ _ => trivial)
        | 1, h1, h2 => injection h1 with h1; injection h2 with h2; subst h1; subst h2; exact HQ2.out.mono (fun _ _ => trivial)
        | 2, h1, h2 => injection h1 with h1; injection h2 with h2; subst h1; subst h2; exact HQ3.out.mono (fun _ _ => trivial)
        | i + 3, h1, h2 => simp at h1) 36
      have hbA : Below u3.heap.size u3 (u3.alloc (.cells (msgRow [ofM sA, ofM sAB, ofM sB] [.slice ap1 (ofM sA).pay.length cp1, .slice ap2 (ofM sAB).pay.length cp2, .slice ap3 (ofM sB).pay.length cp3]).toArray 36)) := (Below.refl _ _).alloc (Nat.le_refl _) _
      have hM9 := HM9.out.keep (Same.below hbA)
      have hN9 := HN9.out.keep (Same.below hbA)
      have hG9 := HG9.out.below hbA
      have hB9 := HB9.out.trans (hbA.mono HB9.out.size)
      refine (sameMsgs_any hN9 hrow (by decide) (fun m hm => by have := four_pays m (by simp at hm; rcases hm with rfl | rfl | rfl <;> simp [four]); omega)).mono ?_
      rintro e w10 ⟨bb, rfl, hbb, hb10⟩
      obtain rfl : bb = true := hbb.2 rfl
      have hM10 := hM9.keep (Same.below hb10)
      have hG10 := hG9.below hb10
      have hB10 := hB9.trans (hb10.mono hB9.size)
      obtain ⟨b8, o8, c8, rfl, hc8, hm8⟩ := hM10.some (by decide)
      obtain ⟨pv8, k0, _, _, _, _⟩ := hM10.one (i := 0) (m := ofM sD) rfl
      rw [Nat.zero_mul, Nat.add_zero] at k0
      have k0' : w10.cell? ⟨b8, o8, none⟩ = some (.string ⟨#[36, 97]⟩) := k0
      have hl8 : [ofM sD, ofM sA, ofM sAB, ofM sB].length = 4 := rfl
      rw [hl8] at hc8 ⊢
      have HG10 := Lib.hid hG10
      have HB10 := Lib.hid hB10
      have HPAYS := Lib.hid hpays
      clear hM10 hG10 hB10 hM9 hN9 hG9 hB9 hrow hbA hbb hb10 hpays k0 HM9 HN9 HM8 HN8 HM7 HM6 HQ1 HQ2 HQ3
      go_wp2_with fail
      refine (nodes_any HG10.out.tr).mono ?_
      rintro e w11 ⟨rfl, rfl⟩
      have hn5 : ((nodes t : Nat) : Int) = 5 := by rw [nodes5 HG10.out.tr.forest HG10.out.lv HG10.out.body]; rfl
      rw [hn5]
      go_wp2_with fail
      refine (tdrop_grove HG10.out HPAYS.out sA (by decide)).mono ?_
      rintro e w12 ⟨t', rfl, hg12, -, hgr12⟩
      rw [four_era.2]
      have HG12 := Lib.hid hg12
      have HB12 := Lib.hid (HB10.out.grown hgr12 HB10.out.size (fun k e => by injection e with e; omega))
      clear hg12 hgr12
      go_wp2_with fail
      refine (nodes_any HG12.out.tr).mono ?_
      rintro e w13 ⟨rfl, rfl⟩
      have hn4 : ((nodes t' : Nat) : Int) = 4 := by rw [nodes4 HG12.out.tr.forest HG12.out.lv HG12.out.body]; rfl
      rw [hn4]
      go_wp2_with fail
      go_ret
      exact ⟨rfl, HB12.out⟩
    | succ gk =>
      have hj4 : j < 4 := by omega
      have hd : decide ((j : Int) < 4) = true := decide_eq_true (by omega)
      have hb1 : (0 : Int) ≤ (j : Int) := by omega
      have hb2 : (j : Int) < 4 := by omega
      obtain ⟨s, hs⟩ : ∃ s, texts4[j]? = some s := ⟨_, List.getElem?_eq_getElem (show j < texts4.length from hj4)⟩
      have kk : wr.cell? ⟨sb, j, none⟩ = some (.string s) := by
        have := HCELLS.out j s hs
        unfold World.cell? at this ⊢
        rw [HSB.out]
        exact this
      have hfour := four_at hs
      have hsz := texts_small hs
      have HNEW := Lib.hid (four_new j _ hfour)
      have HF4 := Lib.hid hfour
      clear hs hfour
      go_wp2_with fail
      refine (of_any s _ (by omega)).mono ?_
      rintro e w3 ⟨v, rfl, hv, hb3⟩
      obtain ⟨pv, rfl, hrow⟩ := hv
      obtain ⟨⟨_, ap, cp, rfl, _⟩, _⟩ := id hrow
      have HPUT := Lib.hid (tput_any (m := ofM s) (HGR.out.below hb3) (fun e he => by have := four_pays e.2 (List.mem_of_mem_take (body_mem he)); omega) (by have := body_length (four.take j); rw [List.length_take] at this; omega) ⟨_, rfl, hrow⟩ (by show s.size ≤ _; omega) (by rw [ofM_pay]; omega))
      have HB3 := Lib.hid hb3
      clear hrow hb3
      go_wp2_with fail
      refine HPUT.out.mono ?_
      rintro e w4 ⟨q, hq, rfl, hg4, hgr4⟩
      obtain ⟨hn1, hn2⟩ := HNEW.out
      obtain rfl : q = 0 := hq.1 hn2
      have hfl : (takes (ofM s) && (get (levels (ofM s).topic) (bodyOf (four.take j))).isSome) = false := by rw [hn1]; simp
      rw [hfl]
      have htk : bodyOf (four.take (j + 1)) = putB (bodyOf (four.take j)) (ofM s) := by
        unfold bodyOf
        rw [List.take_add_one, HF4.out, List.foldl_append]
        rfl
      rw [← htk] at hg4
      have hb4 : Below w.heap.size w w4 := (HBW.out.trans (HB3.out.mono HBW.out.size)).grown hgr4 (by have := HBW.out.size; have := HB3.out.size; omega) (fun k e => by injection e with e; omega)
      have hsb4 : w4.heap[sb]? = W0.heap[sb]? := by
        have h1 : sb < wr.heap.size := by
          have h2 := HSB.out
          rcases Nat.lt_or_ge sb wr.heap.size with h | h
          · exact h
          · rw [Array.getElem?_eq_none h, Array.getElem?_eq_getElem hs0] at h2; cases h2
        rw [hgr4.block sb (by have := HB3.out.size; omega) (fun e => hst (by injection e)), HB3.out.block sb h1, HSB.out]
      have HG4 := Lib.hid hg4
      have HB4 := Lib.hid hb4
      have HSB4 := Lib.hid hsb4
      have HF4' := Lib.hid (show ∀ x, Since FT w3 w4 x → w.heap.size ≤ x from fun x hx => by
        rcases hx with hx | hx
        · exact HFT.out x hx
        · have := HBW.out.size; have := HB3.out.size; omega)
      clear hg4 hgr4 hb4 hsb4 hn1 hn2 hfl htk hq kk
      go_wp2_with fail
      go_roundg gk
      case measure => omega
      case rel => exact ⟨j + 1, _, _, by omega, by go_num, HG4.out, HF4'.out, HB4.out, HSB4.out⟩
end Go.Proofs.YtgnffkahlniehaaGreat
