/- Proved here: RettrieLong returns true. -/
import Derived.Test.YtgnffkahlniehaaGreatRlB
namespace Go.Proofs.YtgnffkahlniehaaGreat
open Go Go.RowKit Go.Proofs.Gs Go.Proofs.Tri Go.Proofs.Rt Go.Proofs.Tp

set_option maxHeartbeats 1000000 in
set_option maxRecDepth 100000 in
theorem rettrieLong_any (k1 k2 k3 : Int) (w : World) (h1 : -9223372036854775808 ≤ k1 ∧ k1 ≤ 9223372036854775807) (h2 : -9223372036854775808 ≤ k2 ∧ k2 ≤ 9223372036854775807) (h3 : -9223372036854775808 ≤ k3 ∧ k3 ≤ 9223372036854775807) :
    Calls Tryz.prog 3 #[.int .i64 k1, .int .i64 k2, .int .i64 k3] w fun e w' => e = .returned (.bool true) ∧ Below w.heap.size w w' := by
  go_enter Tryz.func3, Tryz.ntmps3
  go_wp2_with fail
  refine (lwPlace_any k3 3000 w (by omega) (by omega) h3.1 h3.2).mono ?_
  rintro e _ ⟨⟨n, rfl, hn⟩, rfl⟩
  go_wp2_with fail
  refine (lwPlace_any k2 90 w (by omega) (by omega) h2.1 h2.2).mono ?_
  rintro e _ ⟨⟨f, rfl, hf⟩, rfl⟩
  go_wp2_with fail
  refine (lwPlace_any k1 2147483647 w (by omega) (by omega) h1.1 h1.2).mono ?_
  rintro e _ ⟨⟨y, rfl, hy⟩, rfl⟩
  obtain ⟨W0, hW0⟩ : ∃ W0, w.alloc (.cells #[.int .i64 (y : Nat)] 25) = W0 := ⟨_, rfl⟩
  have g0 : W0.heap[w.heap.size]? = some (.cells #[.int .i64 (y : Nat)] 25 (0, 0)) := by rw [← hW0]; exact (MapKept.heap_alloc w _).1
  have hb0 : Below w.heap.size w W0 := by rw [← hW0]; exact (Below.refl _ _).alloc (Nat.le_refl _) _
  have hs0 : W0.heap.size = w.heap.size + 1 := by rw [← hW0]; simp
  have HW0 := Lib.hid hW0
  have HS0 := Lib.hid hs0
  clear hW0 hs0
  go_wp2_with fail
  rw [HW0.out]
  refine (new_any W0).mono ?_
  rintro e w1 ⟨rfl, hT, hb1⟩
  have HT := Lib.hid (grove_new hT)
  have HB1 := Lib.hid hb1
  clear hT hb1
  go_wp2_with fail
  refine (rlNew_any w1).mono ?_
  rintro e w2 ⟨rfl, hL, hb2⟩
  have HL := Lib.hid hL
  have HB2 := Lib.hid hb2
  clear hL hb2
  go_wp2_with fail
  refine (known_any w2).mono ?_
  rintro e w3 ⟨rfl, hb3⟩
  have HB3 := Lib.hid hb3
  clear hb3
  obtain ⟨W4, hW4⟩ : ∃ W4, w3.alloc (.cells ((filt.map Value.string).toArray) 9) = W4 := ⟨_, rfl⟩
  have g4 : W4.heap[w3.heap.size]? = some (.cells ((filt.map Value.string).toArray) 9 (0, 0)) := by rw [← hW4]; exact (MapKept.heap_alloc w3 _).1
  have hb4 : Below w3.heap.size w3 W4 := by rw [← hW4]; exact (Below.refl _ _).alloc (Nat.le_refl _) _
  have HW4 := Lib.hid (show w3.alloc (.cells #[.string ⟨#[35]⟩, .string ⟨#[97, 47, 35]⟩, .string ⟨#[43]⟩, .string ⟨#[43, 47, 43]⟩, .string ⟨#[97, 47, 43, 47, 98]⟩, .string ⟨#[98, 47, 35]⟩, .string ⟨#[43, 47, 97]⟩, .string ⟨#[99]⟩] 9) = W4 from hW4)
  have hb23 : Below w2.heap.size w2 W4 := HB3.out.trans (hb4.mono HB3.out.size)
  have hb13 : Below w1.heap.size w1 W4 := HB2.out.trans (hb23.mono HB2.out.size)
  have hb03 : Below W0.heap.size W0 W4 := HB1.out.trans (hb13.mono HB1.out.size)
  have hs0 := HS0.out
  have z1 := HB1.out.size
  have z2 := HB2.out.size
  have z3 := HB3.out.size
  have z4 : w1.heap.size < w2.heap.size := HL.out.lt
  have z5 : W0.heap.size + 1 < w1.heap.size := HT.out.tr.lt
  have hLA : LongAt w W4 (W0.heap.size + 1) w1.heap.size w.heap.size w3.heap.size (fun x => x = W0.heap.size) (fun _ => False) (.node [] none []) [] [] (y : Nat) :=
    ⟨HT.out.below hb13, HL.out.below hb23, (hb03.block _ (by omega)).trans g0, by omega, by omega, g4, ⟨by omega, by omega, by omega, by omega, by omega, by omega⟩, ⟨by omega, by omega, by omega⟩, ⟨id, id, id⟩, ⟨by omega, by omega, by omega⟩, hb0.trans (hb03.mono hb0.size)⟩
  have HLA := Lib.hid hLA
  obtain ⟨tb, htb⟩ : ∃ tb, W0.heap.size + 1 = tb := ⟨_, rfl⟩
  obtain ⟨mb, hmb⟩ : ∃ mb, w1.heap.size = mb := ⟨_, rfl⟩
  obtain ⟨xb, hxb⟩ : ∃ xb, w.heap.size = xb := ⟨_, rfl⟩
  obtain ⟨fb, hfb⟩ : ∃ fb, w3.heap.size = fb := ⟨_, rfl⟩
  rw [htb, hmb, hxb, hfb] at HLA
  rw [htb]
  clear hs0 hW4 g4 hb4 hb23 hb13 hb03 z1 z2 z3 z4 z5 hLA HT HL HB1 HB2 HB3 g0 hb0
  go_wp2_with fail
  (try rw [HW4.out])
  go_loopg [13] n (fun g i13 wr => ∃ (i : Nat) (F1 F2 : Nat → Prop) (t : Tree) (B : Ents) (y : Int), i + g = n ∧ i13 = .int .i64 (i : Nat) ∧ fewB i B ∧ LongAt w wr tb mb xb fb F1 F2 t B B y)
  case atStart => exact ⟨0, _, _, _, _, _, by omega, rfl, ⟨Nat.le_refl _, by simp⟩, HLA.out⟩
  case round =>
    obtain ⟨i, F1, F2, t, B, y, hig, rfl, hfew, hla⟩ := hrel
    have HF := Lib.hid hfew
    have HA := Lib.hid hla
    clear hla hfew HLA
    have hB6 : B.length ≤ 3000 := by have := HF.out.1; omega
    have HTS := Lib.hid (fun e he => Nat.le_trans (HF.out.2 e he).1 (show 20 ≤ 1000000000 by omega))
    have HPS := Lib.hid (fun e he => Nat.le_trans (HF.out.2 e he).2 (show 1 ≤ 1000000000 by omega))
    cases gk with
    | zero =>
      obtain rfl : i = n := by omega
      have hd : decide ((i : Int) < (i : Int)) = false := decide_eq_false (by omega)
      rename World => V0
      go_wp2_with fail
      refine (tall_any V0 tb).mono ?_
      rintro e V1 ⟨rfl, q1, hb⟩
      have HA1 := Lib.hid (HA.out.more hb)
      clear hb
      go_wp2_with fail
      refine (given_all HA1.out.gr HPS.out (by omega) q1).mono ?_
      rintro e V2 ⟨v2, rfl, hm2, hb⟩
      obtain ⟨a2, c2, rfl, _, _⟩ := hm2.slice
      have HM2 := Lib.hid hm2
      have HA2 := Lib.hid (HA1.out.more hb)
      obtain ⟨ln, hln⟩ : ∃ ln, (vals B).length = ln := ⟨_, rfl⟩
      rw [hln] at HM2 ⊢
      have HLN := Lib.hid hln
      clear hm2 hb q1 hln
      go_wp2_with fail
      refine (lwStands_any HA2.out.gr HA2.out.ls HTS.out (by omega)).mono ?_
      rintro e V3 ⟨rfl, hb⟩
      have HA3 := Lib.hid (HA2.out.more hb)
      have HM3 := Lib.hid (HM2.out.keep (Same.below hb))
      clear hb
      go_wp2_with fail
      refine (rlAll_any HA3.out.ls HPS.out (by omega)).mono ?_
      rintro e V4 ⟨v4, rfl, hm4, hb⟩
      obtain ⟨a4, c4, rfl, _, _⟩ := hm4.slice
      have HSM := Lib.hid (sameMsgs_any (HM3.out.keep (Same.below hb)) hm4 (by rw [vals_length]; omega) (fun m hm => by
        obtain ⟨e, he, rfl⟩ := List.mem_map.1 hm
        exact HPS.out e he))
      have HA4 := Lib.hid (HA3.out.more hb)
      rw [HLN.out] at HSM ⊢
      clear hm4 hb
      go_wp2_with fail
      refine HSM.out.mono ?_
      rintro e V5 ⟨b5, rfl, hb5, hb⟩
      obtain rfl : b5 = true := hb5.2 (by trivial)
      have HA5 := Lib.hid (HA4.out.more hb)
      clear hb hb5
      go_wp2_with fail
      go_ret
      exact ⟨rfl, HA5.out.below⟩
    | succ gk =>
      have hin : i < n := by omega
      have hd : decide ((i : Int) < (n : Int)) = true := decide_eq_true (by omega)
      go_wp2_with fail
      refine (next_any HA.out.tr HA.out.y0 HA.out.y1 (n := 1 + (f : Int)) (by omega) (by omega)).mono ?_
      rintro e V1 ⟨r, y1, rfl, hr, hy0, hy1, hV1⟩
      have HA1 := Lib.hid (HA.out.turn hy0 hy1 hV1)
      have hr90 : r < 90 := by omega
      clear hr hy0 hy1 hV1
      go_wp2_with fail
      refine (topicOf_any r V1 hr90).mono ?_
      rintro e V2 ⟨rfl, hb⟩
      have HA2 := Lib.hid (HA1.out.more hb)
      obtain ⟨s, hs⟩ : ∃ s, topT r = s := ⟨_, rfl⟩
      obtain ⟨hs1, hs2⟩ := topT_ok hr90
      rw [hs] at hs1 hs2 ⊢
      have HS1 := Lib.hid hs1
      have hs9 : s.size ≤ 1000000000 := by omega
      clear hb hs hs1
      go_wp2_with fail
      refine (next_any HA2.out.tr HA2.out.y0 HA2.out.y1 (n := 6) (by omega) (by omega)).mono ?_
      rintro e V3 ⟨c, y3, rfl, hc, hy0, hy1, hV3⟩
      have HA3 := Lib.hid (HA2.out.turn hy0 hy1 hV3)
      clear hy0 hy1 hV3 HA1 HA2
      have hcc : c = 0 ∨ c = 1 ∨ c = 2 ∨ c = 3 ∨ c = 4 ∨ c = 5 := by omega
      clear hc
      rcases hcc with rfl | rfl | rfl | rfl | rfl | rfl
      · go_wp2_with fail
        obtain ⟨b, hb⟩ : ∃ b, (i : Int) % 256 = b := ⟨_, rfl⟩
        rw [hb]
        obtain ⟨P1, hP1⟩ : ∃ P1, V3.alloc (.cells #[.int .u8 b] 5) = P1 := ⟨_, rfl⟩
        have gp : P1.heap[V3.heap.size]? = some (.cells #[.int .u8 b] 5 (0, 0)) := by rw [← hP1]; exact (MapKept.heap_alloc V3 _).1
        have hbp : Below V3.heap.size V3 P1 := by rw [← hP1]; exact (Below.refl _ _).alloc (Nat.le_refl _) _
        rw [hP1]
        have HA4 := Lib.hid (HA3.out.more hbp)
        have hxp : xb ≠ V3.heap.size := by have := HA3.out.lt; omega
        have htp : V3.heap.size ≠ tb := by have := HA3.out.lt; omega
        have hsp := (Array.getElem?_eq_some_iff.1 gp).1
        clear hb hP1 hbp
        obtain ⟨pb, hpb⟩ : ∃ pb, V3.heap.size = pb := ⟨_, rfl⟩
        rw [hpb] at gp hxp htp hsp ⊢
        clear hpb
        refine (next_any HA4.out.tr HA4.out.y0 HA4.out.y1 (n := 3) (by omega) (by omega)).mono ?_
        rintro e V5 ⟨q, y5, rfl, hq, hy0, hy1, hV5⟩
        have HA5 := Lib.hid (HA4.out.turn hy0 hy1 hV5)
        have gp5 : V5.heap[pb]? = some (.cells #[.int .u8 b] 5 (0, 0)) := by rw [hV5]; exact (heap_setCell_other _ _ _ _ (Ne.symm hxp)).trans gp
        clear hy0 hy1 hV5 gp HA4
        go_wp2_with fail
        refine (next_any HA5.out.tr HA5.out.y0 HA5.out.y1 (n := 2) (by omega) (by omega)).mono ?_
        rintro e V6 ⟨r2, y6, rfl, hr2, hy0, hy1, hV6⟩
        have HA6 := Lib.hid (HA5.out.turn hy0 hy1 hV6)
        have gp6 : V6.heap[pb]? = some (.cells #[.int .u8 b] 5 (0, 0)) := by rw [hV6]; exact (heap_setCell_other _ _ _ _ (Ne.symm hxp)).trans gp5
        obtain ⟨rb, hrb⟩ : ∃ rb, ((r2 : Int) == 0) = rb := ⟨_, rfl⟩
        obtain ⟨P7, hP7⟩ : ∃ P7, V6.alloc (.cells #[.string s, .slice (some ⟨pb, 0, none⟩) 1 1, .int .i64 (q : Nat), .bool rb] 36) = P7 := ⟨_, rfl⟩
        have g7 : P7.heap[V6.heap.size]? = some (.cells #[.string s, .slice (some ⟨pb, 0, none⟩) 1 1, .int .i64 (q : Nat), .bool rb] 36 (0, 0)) := by rw [← hP7]; exact (MapKept.heap_alloc V6 _).1
        have hb7 : Below V6.heap.size V6 P7 := by rw [← hP7]; exact (Below.refl _ _).alloc (Nat.le_refl _) _
        have HA7 := Lib.hid (HA6.out.more hb7)
        have HP7 := Lib.hid hP7
        have hlt6 := (Array.getElem?_eq_some_iff.1 gp6).1
        have gp7 := (hb7.block pb hlt6).trans gp6
        have hlt7 := (Array.getElem?_eq_some_iff.1 g7).1
        have hmt : V6.heap.size ≠ tb := by have := HA6.out.lt; omega
        clear hy0 hy1 hV6 gp5 gp6 HA5 hr2 hb7 hP7 hlt6
        go_upto_region 20 with fail
        (try rw [hrb])
        (try rw [HP7.out])
        clear hrb
        have z0 := cell4' g7 0 _ rfl
        have z1 := cell4' g7 1 _ rfl
        have z2 := cell4' g7 2 _ rfl
        have z3 := cell4' g7 3 _ rfl
        have hmv : ∀ W : World, W.heap[pb]? = some (.cells #[.int .u8 b] 5 (0, 0)) → MsgVal (fun x => x = pb) W (.agg #[.string s, .slice (some ⟨pb, 0, none⟩) 1 1, .int .i64 (q : Nat), .bool rb]) ⟨s, [b], (q : Nat), rb⟩ := fun W hW => by
          refine ⟨_, rfl, ⟨rfl, _, 1, rfl, Nat.le_refl _, by unfold maxLen; omega, .inr ⟨pb, 0, rfl, (Array.getElem?_eq_some_iff.1 hW).1, fun j u hu => ?_⟩⟩, fun x hx => by injection hx with hx; exact hx.symm⟩
          rw [Nat.zero_add]
          refine cell4' hW j u ?_
          cases j with
          | zero => simpa [payCells] using hu
          | succ j => simp [payCells] at hu
        have htk : takes (⟨s, [b], (q : Nat), rb⟩ : MsgV) = true := by
          unfold takes
          simp only [HS1.out, decide_true, Bool.true_and, Bool.and_eq_true, decide_eq_true_eq]
          omega
        have HMV := Lib.hid hmv
        have HTK := Lib.hid htk
        have hput := tput_any HA7.out.gr HPS.out (by omega) (hmv P7 gp7) hs9 (by show 1 ≤ 1000000000; omega)
        rw [htk] at hput
        have HPUT := Lib.hid hput
        clear hmv htk hput hq
        go_wp2_with fail
        refine HPUT.out.mono ?_
        rintro e V8 ⟨n8, hn8, rfl, hg8, hgr8⟩
        obtain rfl : n8 = 0 := hn8.1 (by trivial)
        have HA8 := Lib.hid (HA7.out.tput hg8 hgr8)
        have g8 := (hgr8.block V6.heap.size hlt7 (fun e => hmt (by injection e))).trans g7
        have gp8 := (hgr8.block pb (Array.getElem?_eq_some_iff.1 gp7).1 (fun e => htp (by injection e))).trans gp7
        have x0 := cell4' g8 0 _ rfl
        have x1 := cell4' g8 1 _ rfl
        have x2 := cell4' g8 2 _ rfl
        have x3 := cell4' g8 3 _ rfl
        have HM8 := Lib.hid (rlPut_any HA8.out.ls (HMV.out V8 gp8) HTK.out hs9 (by show 1 ≤ 1000000000; omega) HTS.out (by omega))
        obtain ⟨qq, hqe⟩ : ∃ qq, (get (levels s) B).isSome = qq := ⟨_, rfl⟩
        have HQE := Lib.hid hqe
        have hq2 : (qq != qq) = false := by cases qq <;> rfl
        rw [Bool.true_and]
        (try rw [show (⟨s, [b], (q : Nat), rb⟩ : MsgV).topic = s from rfl])
        rw [hqe]
        clear hn8 hg8 hgr8 g7 g8 gp7 gp8 z0 z1 z2 z3 hqe HA7
        go_wp2_with fail
        refine HM8.out.mono ?_
        rintro e V9 ⟨rfl, hl9, hgr9⟩
        have HZ := Lib.hid (HA8.out.mput hl9 hgr9)
        have HFZ := Lib.hid (HF.out.put (m := ⟨s, [b], (q : Nat), rb⟩) hs2 (Nat.le_refl 1))
        (try rw [show (⟨s, [b], (q : Nat), rb⟩ : MsgV).topic = s from rfl])
        rw [HQE.out]
        clear hl9 hgr9 x0 x1 x2 x3 HA8
        go_wp2_with fail
        refine (bound_any HZ.out.gr.tr).mono ?_
        rintro e u ⟨rfl, rfl⟩
        have HTZ := Lib.hid (fun e he => Nat.le_trans (HFZ.out.2 e he).1 (show 20 ≤ 1000000000 by omega))
        by_cases h199 : i % 200 = 199
        · have hi : ((i : Int) % 200 == 199) = true := by rw [beq_iff_eq]; omega
          go_wp2_with fail
          refine (lwStands_any HZ.out.gr HZ.out.ls HTZ.out (by have := HFZ.out.1; omega)).mono ?_
          rintro e V ⟨rfl, hbv⟩
          have HZ2 := Lib.hid (HZ.out.more hbv)
          clear hbv
          go_wp2_with fail
          go_roundg gk
          case measure => omega
          case rel => exact ⟨i + 1, _, _, _, _, _, by omega, by go_num, HFZ.out, HZ2.out⟩
        · have hi : ((i : Int) % 200 == 199) = false := by rw [beq_eq_false_iff_ne]; omega
          go_wp2_with fail
          go_roundg gk
          case measure => omega
          case rel => exact ⟨i + 1, _, _, _, _, _, by omega, by go_num, HFZ.out, HZ.out⟩
      · go_wp2_with fail
        obtain ⟨b, hb⟩ : ∃ b, (i : Int) % 256 = b := ⟨_, rfl⟩
        rw [hb]
        obtain ⟨P1, hP1⟩ : ∃ P1, V3.alloc (.cells #[.int .u8 b] 5) = P1 := ⟨_, rfl⟩
        have gp : P1.heap[V3.heap.size]? = some (.cells #[.int .u8 b] 5 (0, 0)) := by rw [← hP1]; exact (MapKept.heap_alloc V3 _).1
        have hbp : Below V3.heap.size V3 P1 := by rw [← hP1]; exact (Below.refl _ _).alloc (Nat.le_refl _) _
        rw [hP1]
        have HA4 := Lib.hid (HA3.out.more hbp)
        have hxp : xb ≠ V3.heap.size := by have := HA3.out.lt; omega
        have htp : V3.heap.size ≠ tb := by have := HA3.out.lt; omega
        have hsp := (Array.getElem?_eq_some_iff.1 gp).1
        clear hb hP1 hbp
        obtain ⟨pb, hpb⟩ : ∃ pb, V3.heap.size = pb := ⟨_, rfl⟩
        rw [hpb] at gp hxp htp hsp ⊢
        clear hpb
        refine (next_any HA4.out.tr HA4.out.y0 HA4.out.y1 (n := 3) (by omega) (by omega)).mono ?_
        rintro e V5 ⟨q, y5, rfl, hq, hy0, hy1, hV5⟩
        have HA5 := Lib.hid (HA4.out.turn hy0 hy1 hV5)
        have gp5 : V5.heap[pb]? = some (.cells #[.int .u8 b] 5 (0, 0)) := by rw [hV5]; exact (heap_setCell_other _ _ _ _ (Ne.symm hxp)).trans gp
        clear hy0 hy1 hV5 gp HA4
        go_wp2_with fail
        refine (next_any HA5.out.tr HA5.out.y0 HA5.out.y1 (n := 2) (by omega) (by omega)).mono ?_
        rintro e V6 ⟨r2, y6, rfl, hr2, hy0, hy1, hV6⟩
        have HA6 := Lib.hid (HA5.out.turn hy0 hy1 hV6)
        have gp6 : V6.heap[pb]? = some (.cells #[.int .u8 b] 5 (0, 0)) := by rw [hV6]; exact (heap_setCell_other _ _ _ _ (Ne.symm hxp)).trans gp5
        obtain ⟨rb, hrb⟩ : ∃ rb, ((r2 : Int) == 0) = rb := ⟨_, rfl⟩
        obtain ⟨P7, hP7⟩ : ∃ P7, V6.alloc (.cells #[.string s, .slice (some ⟨pb, 0, none⟩) 1 1, .int .i64 (q : Nat), .bool rb] 36) = P7 := ⟨_, rfl⟩
        have g7 : P7.heap[V6.heap.size]? = some (.cells #[.string s, .slice (some ⟨pb, 0, none⟩) 1 1, .int .i64 (q : Nat), .bool rb] 36 (0, 0)) := by rw [← hP7]; exact (MapKept.heap_alloc V6 _).1
        have hb7 : Below V6.heap.size V6 P7 := by rw [← hP7]; exact (Below.refl _ _).alloc (Nat.le_refl _) _
        have HA7 := Lib.hid (HA6.out.more hb7)
        have HP7 := Lib.hid hP7
        have hlt6 := (Array.getElem?_eq_some_iff.1 gp6).1
        have gp7 := (hb7.block pb hlt6).trans gp6
        have hlt7 := (Array.getElem?_eq_some_iff.1 g7).1
        have hmt : V6.heap.size ≠ tb := by have := HA6.out.lt; omega
        clear hy0 hy1 hV6 gp5 gp6 HA5 hr2 hb7 hP7 hlt6
        go_upto_region 20 with fail
        (try rw [hrb])
        (try rw [HP7.out])
        clear hrb
        have z0 := cell4' g7 0 _ rfl
        have z1 := cell4' g7 1 _ rfl
        have z2 := cell4' g7 2 _ rfl
        have z3 := cell4' g7 3 _ rfl
        have hmv : ∀ W : World, W.heap[pb]? = some (.cells #[.int .u8 b] 5 (0, 0)) → MsgVal (fun x => x = pb) W (.agg #[.string s, .slice (some ⟨pb, 0, none⟩) 1 1, .int .i64 (q : Nat), .bool rb]) ⟨s, [b], (q : Nat), rb⟩ := fun W hW => by
          refine ⟨_, rfl, ⟨rfl, _, 1, rfl, Nat.le_refl _, by unfold maxLen; omega, .inr ⟨pb, 0, rfl, (Array.getElem?_eq_some_iff.1 hW).1, fun j u hu => ?_⟩⟩, fun x hx => by injection hx with hx; exact hx.symm⟩
          rw [Nat.zero_add]
          refine cell4' hW j u ?_
          cases j with
          | zero => simpa [payCells] using hu
          | succ j => simp [payCells] at hu
        have htk : takes (⟨s, [b], (q : Nat), rb⟩ : MsgV) = true := by
          unfold takes
          simp only [HS1.out, decide_true, Bool.true_and, Bool.and_eq_true, decide_eq_true_eq]
          omega
        have HMV := Lib.hid hmv
        have HTK := Lib.hid htk
        have hput := tput_any HA7.out.gr HPS.out (by omega) (hmv P7 gp7) hs9 (by show 1 ≤ 1000000000; omega)
        rw [htk] at hput
        have HPUT := Lib.hid hput
        clear hmv htk hput hq
        go_wp2_with fail
        refine HPUT.out.mono ?_
        rintro e V8 ⟨n8, hn8, rfl, hg8, hgr8⟩
        obtain rfl : n8 = 0 := hn8.1 (by trivial)
        have HA8 := Lib.hid (HA7.out.tput hg8 hgr8)
        have g8 := (hgr8.block V6.heap.size hlt7 (fun e => hmt (by injection e))).trans g7
        have gp8 := (hgr8.block pb (Array.getElem?_eq_some_iff.1 gp7).1 (fun e => htp (by injection e))).trans gp7
        have x0 := cell4' g8 0 _ rfl
        have x1 := cell4' g8 1 _ rfl
        have x2 := cell4' g8 2 _ rfl
        have x3 := cell4' g8 3 _ rfl
        have HM8 := Lib.hid (rlPut_any HA8.out.ls (HMV.out V8 gp8) HTK.out hs9 (by show 1 ≤ 1000000000; omega) HTS.out (by omega))
        obtain ⟨qq, hqe⟩ : ∃ qq, (get (levels s) B).isSome = qq := ⟨_, rfl⟩
        have HQE := Lib.hid hqe
        have hq2 : (qq != qq) = false := by cases qq <;> rfl
        rw [Bool.true_and]
        (try rw [show (⟨s, [b], (q : Nat), rb⟩ : MsgV).topic = s from rfl])
        rw [hqe]
        clear hn8 hg8 hgr8 g7 g8 gp7 gp8 z0 z1 z2 z3 hqe HA7
        go_wp2_with fail
        refine HM8.out.mono ?_
        rintro e V9 ⟨rfl, hl9, hgr9⟩
        have HZ := Lib.hid (HA8.out.mput hl9 hgr9)
        have HFZ := Lib.hid (HF.out.put (m := ⟨s, [b], (q : Nat), rb⟩) hs2 (Nat.le_refl 1))
        (try rw [show (⟨s, [b], (q : Nat), rb⟩ : MsgV).topic = s from rfl])
        rw [HQE.out]
        clear hl9 hgr9 x0 x1 x2 x3 HA8
        go_wp2_with fail
        refine (bound_any HZ.out.gr.tr).mono ?_
        rintro e u ⟨rfl, rfl⟩
        have HTZ := Lib.hid (fun e he => Nat.le_trans (HFZ.out.2 e he).1 (show 20 ≤ 1000000000 by omega))
        by_cases h199 : i % 200 = 199
        · have hi : ((i : Int) % 200 == 199) = true := by rw [beq_iff_eq]; omega
          go_wp2_with fail
          refine (lwStands_any HZ.out.gr HZ.out.ls HTZ.out (by have := HFZ.out.1; omega)).mono ?_
          rintro e V ⟨rfl, hbv⟩
          have HZ2 := Lib.hid (HZ.out.more hbv)
          clear hbv
          go_wp2_with fail
          go_roundg gk
          case measure => omega
          case rel => exact ⟨i + 1, _, _, _, _, _, by omega, by go_num, HFZ.out, HZ2.out⟩
        · have hi : ((i : Int) % 200 == 199) = false := by rw [beq_eq_false_iff_ne]; omega
          go_wp2_with fail
          go_roundg gk
          case measure => omega
          case rel => exact ⟨i + 1, _, _, _, _, _, by omega, by go_num, HFZ.out, HZ.out⟩
      · go_wp2_with fail
        obtain ⟨b, hb⟩ : ∃ b, (i : Int) % 256 = b := ⟨_, rfl⟩
        rw [hb]
        obtain ⟨P1, hP1⟩ : ∃ P1, V3.alloc (.cells #[.int .u8 b] 5) = P1 := ⟨_, rfl⟩
        have gp : P1.heap[V3.heap.size]? = some (.cells #[.int .u8 b] 5 (0, 0)) := by rw [← hP1]; exact (MapKept.heap_alloc V3 _).1
        have hbp : Below V3.heap.size V3 P1 := by rw [← hP1]; exact (Below.refl _ _).alloc (Nat.le_refl _) _
        rw [hP1]
        have HA4 := Lib.hid (HA3.out.more hbp)
        have hxp : xb ≠ V3.heap.size := by have := HA3.out.lt; omega
        have htp : V3.heap.size ≠ tb := by have := HA3.out.lt; omega
        have hsp := (Array.getElem?_eq_some_iff.1 gp).1
        clear hb hP1 hbp
        obtain ⟨pb, hpb⟩ : ∃ pb, V3.heap.size = pb := ⟨_, rfl⟩
        rw [hpb] at gp hxp htp hsp ⊢
        clear hpb
        refine (next_any HA4.out.tr HA4.out.y0 HA4.out.y1 (n := 3) (by omega) (by omega)).mono ?_
        rintro e V5 ⟨q, y5, rfl, hq, hy0, hy1, hV5⟩
        have HA5 := Lib.hid (HA4.out.turn hy0 hy1 hV5)
        have gp5 : V5.heap[pb]? = some (.cells #[.int .u8 b] 5 (0, 0)) := by rw [hV5]; exact (heap_setCell_other _ _ _ _ (Ne.symm hxp)).trans gp
        clear hy0 hy1 hV5 gp HA4
        go_wp2_with fail
        refine (next_any HA5.out.tr HA5.out.y0 HA5.out.y1 (n := 2) (by omega) (by omega)).mono ?_
        rintro e V6 ⟨r2, y6, rfl, hr2, hy0, hy1, hV6⟩
        have HA6 := Lib.hid (HA5.out.turn hy0 hy1 hV6)
        have gp6 : V6.heap[pb]? = some (.cells #[.int .u8 b] 5 (0, 0)) := by rw [hV6]; exact (heap_setCell_other _ _ _ _ (Ne.symm hxp)).trans gp5
        obtain ⟨rb, hrb⟩ : ∃ rb, ((r2 : Int) == 0) = rb := ⟨_, rfl⟩
        obtain ⟨P7, hP7⟩ : ∃ P7, V6.alloc (.cells #[.string s, .slice (some ⟨pb, 0, none⟩) 1 1, .int .i64 (q : Nat), .bool rb] 36) = P7 := ⟨_, rfl⟩
        have g7 : P7.heap[V6.heap.size]? = some (.cells #[.string s, .slice (some ⟨pb, 0, none⟩) 1 1, .int .i64 (q : Nat), .bool rb] 36 (0, 0)) := by rw [← hP7]; exact (MapKept.heap_alloc V6 _).1
        have hb7 : Below V6.heap.size V6 P7 := by rw [← hP7]; exact (Below.refl _ _).alloc (Nat.le_refl _) _
        have HA7 := Lib.hid (HA6.out.more hb7)
        have HP7 := Lib.hid hP7
        have hlt6 := (Array.getElem?_eq_some_iff.1 gp6).1
        have gp7 := (hb7.block pb hlt6).trans gp6
        have hlt7 := (Array.getElem?_eq_some_iff.1 g7).1
        have hmt : V6.heap.size ≠ tb := by have := HA6.out.lt; omega
        clear hy0 hy1 hV6 gp5 gp6 HA5 hr2 hb7 hP7 hlt6
        go_upto_region 20 with fail
        (try rw [hrb])
        (try rw [HP7.out])
        clear hrb
        have z0 := cell4' g7 0 _ rfl
        have z1 := cell4' g7 1 _ rfl
        have z2 := cell4' g7 2 _ rfl
        have z3 := cell4' g7 3 _ rfl
        have hmv : ∀ W : World, W.heap[pb]? = some (.cells #[.int .u8 b] 5 (0, 0)) → MsgVal (fun x => x = pb) W (.agg #[.string s, .slice (some ⟨pb, 0, none⟩) 1 1, .int .i64 (q : Nat), .bool rb]) ⟨s, [b], (q : Nat), rb⟩ := fun W hW => by
          refine ⟨_, rfl, ⟨rfl, _, 1, rfl, Nat.le_refl _, by unfold maxLen; omega, .inr ⟨pb, 0, rfl, (Array.getElem?_eq_some_iff.1 hW).1, fun j u hu => ?_⟩⟩, fun x hx => by injection hx with hx; exact hx.symm⟩
          rw [Nat.zero_add]
          refine cell4' hW j u ?_
          cases j with
          | zero => simpa [payCells] using hu
          | succ j => simp [payCells] at hu
        have htk : takes (⟨s, [b], (q : Nat), rb⟩ : MsgV) = true := by
          unfold takes
          simp only [HS1.out, decide_true, Bool.true_and, Bool.and_eq_true, decide_eq_true_eq]
          omega
        have HMV := Lib.hid hmv
        have HTK := Lib.hid htk
        have hput := tput_any HA7.out.gr HPS.out (by omega) (hmv P7 gp7) hs9 (by show 1 ≤ 1000000000; omega)
        rw [htk] at hput
        have HPUT := Lib.hid hput
        clear hmv htk hput hq
        go_wp2_with fail
        refine HPUT.out.mono ?_
        rintro e V8 ⟨n8, hn8, rfl, hg8, hgr8⟩
        obtain rfl : n8 = 0 := hn8.1 (by trivial)
        have HA8 := Lib.hid (HA7.out.tput hg8 hgr8)
        have g8 := (hgr8.block V6.heap.size hlt7 (fun e => hmt (by injection e))).trans g7
        have gp8 := (hgr8.block pb (Array.getElem?_eq_some_iff.1 gp7).1 (fun e => htp (by injection e))).trans gp7
        have x0 := cell4' g8 0 _ rfl
        have x1 := cell4' g8 1 _ rfl
        have x2 := cell4' g8 2 _ rfl
        have x3 := cell4' g8 3 _ rfl
        have HM8 := Lib.hid (rlPut_any HA8.out.ls (HMV.out V8 gp8) HTK.out hs9 (by show 1 ≤ 1000000000; omega) HTS.out (by omega))
        obtain ⟨qq, hqe⟩ : ∃ qq, (get (levels s) B).isSome = qq := ⟨_, rfl⟩
        have HQE := Lib.hid hqe
        have hq2 : (qq != qq) = false := by cases qq <;> rfl
        rw [Bool.true_and]
        (try rw [show (⟨s, [b], (q : Nat), rb⟩ : MsgV).topic = s from rfl])
        rw [hqe]
        clear hn8 hg8 hgr8 g7 g8 gp7 gp8 z0 z1 z2 z3 hqe HA7
        go_wp2_with fail
        refine HM8.out.mono ?_
        rintro e V9 ⟨rfl, hl9, hgr9⟩
        have HZ := Lib.hid (HA8.out.mput hl9 hgr9)
        have HFZ := Lib.hid (HF.out.put (m := ⟨s, [b], (q : Nat), rb⟩) hs2 (Nat.le_refl 1))
        (try rw [show (⟨s, [b], (q : Nat), rb⟩ : MsgV).topic = s from rfl])
        rw [HQE.out]
        clear hl9 hgr9 x0 x1 x2 x3 HA8
        go_wp2_with fail
        refine (bound_any HZ.out.gr.tr).mono ?_
        rintro e u ⟨rfl, rfl⟩
        have HTZ := Lib.hid (fun e he => Nat.le_trans (HFZ.out.2 e he).1 (show 20 ≤ 1000000000 by omega))
        by_cases h199 : i % 200 = 199
        · have hi : ((i : Int) % 200 == 199) = true := by rw [beq_iff_eq]; omega
          go_wp2_with fail
          refine (lwStands_any HZ.out.gr HZ.out.ls HTZ.out (by have := HFZ.out.1; omega)).mono ?_
          rintro e V ⟨rfl, hbv⟩
          have HZ2 := Lib.hid (HZ.out.more hbv)
          clear hbv
          go_wp2_with fail
          go_roundg gk
          case measure => omega
          case rel => exact ⟨i + 1, _, _, _, _, _, by omega, by go_num, HFZ.out, HZ2.out⟩
        · have hi : ((i : Int) % 200 == 199) = false := by rw [beq_eq_false_iff_ne]; omega
          go_wp2_with fail
          go_roundg gk
          case measure => omega
          case rel => exact ⟨i + 1, _, _, _, _, _, by omega, by go_num, HFZ.out, HZ.out⟩
      · go_wp2_with fail
        refine (tdrop_grove HA3.out.gr HPS.out s hs9).mono ?_
        rintro e V4 ⟨t4, rfl, hg4, _, hgr4⟩
        have HA4 := Lib.hid (HA3.out.tput hg4 hgr4)
        obtain ⟨q, hq⟩ : ∃ q, (get (levels s) B).isSome = q := ⟨_, rfl⟩
        have HQ := Lib.hid hq
        rw [hq]
        clear hg4 hgr4 hq
        go_wp2_with fail
        refine (rlDrop_any HA4.out.ls s hs9 HTS.out (by omega)).mono ?_
        rintro e V5 ⟨rfl, hl5, hgr5⟩
        have HZ := Lib.hid (HA4.out.mput hl5 hgr5)
        have HFZ := Lib.hid ((HF.out.era (levels s)).more (Nat.le_succ i))
        have hqq : (q != q) = false := by cases q <;> rfl
        rw [HQ.out]
        clear hl5 hgr5 HA4
        go_wp2_with fail
        refine (bound_any HZ.out.gr.tr).mono ?_
        rintro e u ⟨rfl, rfl⟩
        have HTZ := Lib.hid (fun e he => Nat.le_trans (HFZ.out.2 e he).1 (show 20 ≤ 1000000000 by omega))
        by_cases h199 : i % 200 = 199
        · have hi : ((i : Int) % 200 == 199) = true := by rw [beq_iff_eq]; omega
          go_wp2_with fail
          refine (lwStands_any HZ.out.gr HZ.out.ls HTZ.out (by have := HFZ.out.1; omega)).mono ?_
          rintro e V ⟨rfl, hbv⟩
          have HZ2 := Lib.hid (HZ.out.more hbv)
          clear hbv
          go_wp2_with fail
          go_roundg gk
          case measure => omega
          case rel => exact ⟨i + 1, _, _, _, _, _, by omega, by go_num, HFZ.out, HZ2.out⟩
        · have hi : ((i : Int) % 200 == 199) = false := by rw [beq_eq_false_iff_ne]; omega
          go_wp2_with fail
          go_roundg gk
          case measure => omega
          case rel => exact ⟨i + 1, _, _, _, _, _, by omega, by go_num, HFZ.out, HZ.out⟩
      · go_wp2_with fail
        refine (tdrop_grove HA3.out.gr HPS.out s hs9).mono ?_
        rintro e V4 ⟨t4, rfl, hg4, _, hgr4⟩
        have HA4 := Lib.hid (HA3.out.tput hg4 hgr4)
        obtain ⟨q, hq⟩ : ∃ q, (get (levels s) B).isSome = q := ⟨_, rfl⟩
        have HQ := Lib.hid hq
        rw [hq]
        clear hg4 hgr4 hq
        go_wp2_with fail
        refine (rlDrop_any HA4.out.ls s hs9 HTS.out (by omega)).mono ?_
        rintro e V5 ⟨rfl, hl5, hgr5⟩
        have HZ := Lib.hid (HA4.out.mput hl5 hgr5)
        have HFZ := Lib.hid ((HF.out.era (levels s)).more (Nat.le_succ i))
        have hqq : (q != q) = false := by cases q <;> rfl
        rw [HQ.out]
        clear hl5 hgr5 HA4
        go_wp2_with fail
        refine (bound_any HZ.out.gr.tr).mono ?_
        rintro e u ⟨rfl, rfl⟩
        have HTZ := Lib.hid (fun e he => Nat.le_trans (HFZ.out.2 e he).1 (show 20 ≤ 1000000000 by omega))
        by_cases h199 : i % 200 = 199
        · have hi : ((i : Int) % 200 == 199) = true := by rw [beq_iff_eq]; omega
          go_wp2_with fail
          refine (lwStands_any HZ.out.gr HZ.out.ls HTZ.out (by have := HFZ.out.1; omega)).mono ?_
          rintro e V ⟨rfl, hbv⟩
          have HZ2 := Lib.hid (HZ.out.more hbv)
          clear hbv
          go_wp2_with fail
          go_roundg gk
          case measure => omega
          case rel => exact ⟨i + 1, _, _, _, _, _, by omega, by go_num, HFZ.out, HZ2.out⟩
        · have hi : ((i : Int) % 200 == 199) = false := by rw [beq_eq_false_iff_ne]; omega
          go_wp2_with fail
          go_roundg gk
          case measure => omega
          case rel => exact ⟨i + 1, _, _, _, _, _, by omega, by go_num, HFZ.out, HZ.out⟩
      · go_wp2_with fail
        refine (next_any HA3.out.tr HA3.out.y0 HA3.out.y1 (n := 8) (by omega) (by omega)).mono ?_
        rintro e V4 ⟨c, y4, rfl, hc, hy0, hy1, hV4⟩
        have HA4 := Lib.hid (HA3.out.turn hy0 hy1 hV4)
        obtain ⟨x, hx, hx2⟩ := HA4.out.filter (r := c) (by omega)
        have hc1 : (0 : Int) ≤ (c : Int) := by omega
        have hx9 : x.size ≤ 1000000000 := by omega
        clear hy0 hy1 hV4
        go_wp2_with fail
        clear hx hc hc1
        refine (tfind_any V4 tb x).mono ?_
        rintro e V5 ⟨b1, b2, rfl, q1, q2, hb⟩
        have HA5 := Lib.hid (HA4.out.more hb)
        clear hb
        go_wp2_with fail
        refine (given_find HA5.out.gr HPS.out (by omega) x hx9 q1 q2).mono ?_
        rintro e V6 ⟨v6, rfl, hm6, hb⟩
        obtain ⟨a6, c6, rfl, _, _⟩ := hm6.slice
        have HM6 := Lib.hid hm6
        have HA6 := Lib.hid (HA5.out.more hb)
        obtain ⟨L, hL⟩ : ∃ L, vals (B.filter (fun e => matchT x e.2.topic)) = L := ⟨_, rfl⟩
        have HL6 : L.length ≤ 1000000 := by rw [← hL, vals_length]; exact Nat.le_trans (List.length_filter_le ..) (by omega)
        have HP6 : ∀ m ∈ L, m.pay.length ≤ 1000000000 := fun m hm => by
          rw [← hL] at hm
          obtain ⟨e, he, rfl⟩ := List.mem_map.1 hm
          exact HPS.out e (List.mem_filter.1 he).1
        have HP6' := Lib.hid HP6
        obtain ⟨ln, hln⟩ : ∃ ln, L.length = ln := ⟨_, rfl⟩
        have HLN := Lib.hid hln
        have hf7 := rlFind_any HA6.out.ls x hx9 (fun e he => ⟨HTS.out e he, HPS.out e he⟩) (by omega)
        rw [hL] at HM6 hf7 ⊢
        rw [hln] at HM6 ⊢
        have HF7 := Lib.hid hf7
        clear hm6 hb q1 q2 HP6 hf7 hL hln
        go_wp2_with fail
        refine HF7.out.mono ?_
        rintro e V7 ⟨v7, rfl, hm7, hb⟩
        obtain ⟨a7, c7, rfl, _, _⟩ := hm7.slice
        have HSM := Lib.hid (sameMsgs_any (HM6.out.keep (Same.below hb)) hm7 HL6 HP6'.out)
        have HA7 := Lib.hid (HA6.out.more hb)
        rw [HLN.out] at HSM ⊢
        clear hm7 hb HL6
        go_wp2_with fail
        refine HSM.out.mono ?_
        rintro e V8 ⟨b8, rfl, hb8, hb⟩
        obtain rfl : b8 = true := hb8.2 (by trivial)
        have HZ := Lib.hid (HA7.out.more hb)
        have HFZ := Lib.hid (HF.out.more (Nat.le_succ i))
        clear hb hb8
        go_wp2_with fail
        refine (bound_any HZ.out.gr.tr).mono ?_
        rintro e u ⟨rfl, rfl⟩
        have HTZ := Lib.hid (fun e he => Nat.le_trans (HFZ.out.2 e he).1 (show 20 ≤ 1000000000 by omega))
        by_cases h199 : i % 200 = 199
        · have hi : ((i : Int) % 200 == 199) = true := by rw [beq_iff_eq]; omega
          go_wp2_with fail
          refine (lwStands_any HZ.out.gr HZ.out.ls HTZ.out (by have := HFZ.out.1; omega)).mono ?_
          rintro e V ⟨rfl, hbv⟩
          have HZ2 := Lib.hid (HZ.out.more hbv)
          clear hbv
          go_wp2_with fail
          go_roundg gk
          case measure => omega
          case rel => exact ⟨i + 1, _, _, _, _, _, by omega, by go_num, HFZ.out, HZ2.out⟩
        · have hi : ((i : Int) % 200 == 199) = false := by rw [beq_eq_false_iff_ne]; omega
          go_wp2_with fail
          go_roundg gk
          case measure => omega
          case rel => exact ⟨i + 1, _, _, _, _, _, by omega, by go_num, HFZ.out, HZ.out⟩
end Go.Proofs.YtgnffkahlniehaaGreat
