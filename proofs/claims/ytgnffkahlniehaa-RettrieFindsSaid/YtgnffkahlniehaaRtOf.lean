/- Proved here: the law's of, small. -/
import Derived.Test.YtgnffkahlniehaaRtShape
import Derived.Lib.ConvBytes
namespace Go.Proofs.Ytgnffkahlniehaa
open Go Go.RowKit Go.Proofs.Gs Go.Proofs.Tri Go.Proofs.Rt Go.Proofs.Tp Go.Proofs.Rg

/-- What of makes of a text. -/
def ofM (s : ByteArray) : MsgV := ⟨s, s.data.toList.map (fun x => (x.toNat : Int)), 1, false⟩

theorem bytesRowF {W : World} {s : ByteArray} (hs : s.size ≤ 1000000000) : RowF (fun x => x = W.heap.size) (Lib.bytesWorld W 5 s) 1 (.slice (some ⟨W.heap.size, 0, none⟩) s.size (grownCap W s.size 0 5)) (ofM s).pay.length (payCells (ofM s).pay) := by
  have hl : (ofM s).pay.length = s.size := by simp [ofM]
  refine ⟨⟨by simp [payCells], _, _, by rw [hl], by rw [hl]; exact grownCap_ge _ _ _ _, grownCap_le_maxLen _ _ _ _ (by unfold maxLen; omega), .inr ⟨W.heap.size, 0, rfl, by rw [Lib.bytesWorld_size]; omega, fun j u hu => ?_⟩⟩, fun b e => by simpa [Value.ownBlock] using e.symm⟩
  have hj : j < s.size := by have := (List.getElem?_eq_some_iff.1 hu).1; simpa [payCells, ofM] using this
  rw [Nat.zero_add, Lib.bytesWorld_cell W _ s j hj]
  unfold payCells ofM at hu
  simp only [List.map_map, List.getElem?_map] at hu
  have hg : s.data.toList[j]? = some (s.data.toList.getD j 0) := by
    have hj' : j < s.data.toList.length := by simpa using hj
    rw [List.getD_eq_getElem?_getD, List.getElem?_eq_getElem hj']
    rfl
  rw [hg] at hu
  simpa using hu

theorem bytesBelow (W : World) (e : TypeId) (s : ByteArray) : Below W.heap.size W (Lib.bytesWorld W e s) := by
  refine ⟨?_, ?_, ?_, by rw [Lib.bytesWorld_size]; omega, fun k hk => Lib.bytesWorld_at_old W e s k hk⟩ <;> (unfold Lib.bytesWorld World.freeze; split <;> rfl)

set_option maxHeartbeats 1000000 in
set_option maxRecDepth 100000 in
theorem of_any (s : ByteArray) (w : World) (hs : s.size ≤ 1000000000) :
    Calls Try.prog 24 #[.string s] w fun e w' => ∃ v, e = .returned v ∧ MsgVal (Fresh w w') w' v (ofM s) ∧ Below w.heap.size w w' := by
  have hconv : ∀ W : World, (convert 9 28 (.string s)).run Try.prog W = .ok (.slice (some ⟨W.heap.size, 0, none⟩) s.size (grownCap W s.size 0 5)) (Lib.bytesWorld W 5 s) := fun W =>
    Lib.run_convert_string_bytes W 9 28 5 s Try.underlying9 Try.underlying28 Try.underlying5
  obtain ⟨W0, hW0⟩ : ∃ W0, w.alloc (.cells #[.string ⟨#[]⟩, .slice none 0 0, .int .i64 0, .bool false] 30) = W0 := ⟨_, rfl⟩
  have g0 : W0.heap[w.heap.size]? = some (.cells #[.string ⟨#[]⟩, .slice none 0 0, .int .i64 0, .bool false] 30 (0, 0)) := by rw [← hW0]; exact (MapKept.heap_alloc w _).1
  have hb0 : Below w.heap.size w W0 := by rw [← hW0]; exact (Below.refl _ _).alloc (Nat.le_refl _) _
  have hs0 : W0.heap.size = w.heap.size + 1 := by rw [← hW0]; simp
  obtain ⟨W1, hW1⟩ : ∃ W1, Lib.bytesWorld W0 5 s = W1 := ⟨_, rfl⟩
  have hrow := bytesRowF (W := W0) hs
  have hb1 := bytesBelow W0 5 s
  have hs1 := Lib.bytesWorld_size W0 5 s
  rw [hW1] at hrow hb1 hs1
  have g1 := (hb1.block w.heap.size (by omega)).trans g0
  have y0 := cell4 g1 0 _ rfl
  have y1 := cell4 g1 1 _ rfl
  have y2 := cell4 g1 2 _ rfl
  have y3 := cell4 g1 3 _ rfl
  have yf := fun j => frozen_of_row W1 w.heap.size j _ _ g1
  have HROW := Lib.hid hrow
  have H1 := Lib.hid hb1
  have HG := Lib.hid g1
  obtain ⟨cp, hcp⟩ : ∃ cp, grownCap W0 s.size 0 5 = cp := ⟨_, rfl⟩
  rw [hcp] at HROW
  clear hrow hb1 g0 g1
  go_enter Try.func24, Try.ntmps24
  go_wp2_with fail
  obtain ⟨W4, hW4⟩ : ∃ W4, (((W1.setCell ⟨w.heap.size, 0, none⟩ (.string s)).setCell ⟨w.heap.size, 1, none⟩ (.slice (some ⟨w.heap.size + 1, 0, none⟩) s.size cp)).setCell ⟨w.heap.size, 2, none⟩ (.int .i64 1)).setCell ⟨w.heap.size, 3, none⟩ (.bool false) = W4 := ⟨_, rfl⟩
  obtain ⟨g4, b4, s4⟩ := set4 HG.out hW4
  have o4 : ∀ k, k ≠ w.heap.size → W4.heap[k]? = W1.heap[k]? := fun k hk => by
    rw [← hW4]
    exact (heap_setCell_other _ _ _ _ hk).trans ((heap_setCell_other _ _ _ _ hk).trans ((heap_setCell_other _ _ _ _ hk).trans (heap_setCell_other _ _ _ _ hk)))
  rw [hW4]
  clear hW4 y0 y1 y2 y3
  have z0 : W4.cell? ⟨w.heap.size, 0, none⟩ = some (.string s) := cell4 g4 0 _ rfl
  have z1 : W4.cell? ⟨w.heap.size, 1, none⟩ = some (.slice (some ⟨w.heap.size + 1, 0, none⟩) s.size cp) := cell4 g4 1 _ rfl
  have z2 : W4.cell? ⟨w.heap.size, 2, none⟩ = some (.int .i64 1) := cell4 g4 2 _ rfl
  have z3 : W4.cell? ⟨w.heap.size, 3, none⟩ = some (.bool false) := cell4 g4 3 _ rfl
  refine bodyPost_ret (v := .agg #[.string s, .slice (some ⟨w.heap.size + 1, 0, none⟩) s.size cp, .int .i64 1, .bool false]) (by simp [results, Try.results24, go_sem, z0, z1, z2, z3]) rfl ?_
  have hr := HROW.out
  rw [hs0] at hr
  exact ⟨_, rfl, ⟨_, rfl, (hr.keep (fun k hk hF => o4 k (by rw [hF]; omega))).mono (fun x hx => ⟨by rw [hx]; omega, by rw [hx]; omega⟩)⟩, (hb0.trans (H1.out.mono (by omega))).trans (b4 _ (Nat.le_refl _))⟩

/-- How much a list of messages counts for. -/
def weight (l : List MsgV) : Nat := (l.map fun m => 1 + m.topic.size + m.pay.length).sum
def smallB (l : List MsgV) : Bool := decide (l.length ≤ 60) && decide (weight l ≤ 60000)

/-- What small counts, up to where it stops. -/
theorem weight_take (l : List MsgV) (j : Nat) : weight (l.take (j + 1)) = weight (l.take j) + ((l[j]?.map fun m => 1 + m.topic.size + m.pay.length).getD 0) := by
  unfold weight
  rw [List.take_add_one]
  cases l[j]? <;> simp
theorem weight_mono (l : List MsgV) (j : Nat) : weight (l.take j) ≤ weight l := by
  conv => rhs; rw [← List.take_append_drop j l]
  unfold weight
  rw [List.map_append, List.sum_append]
  omega

set_option maxHeartbeats 2000000 in
set_option maxRecDepth 100000 in
theorem small_any {F : Nat → Prop} {w : World} {v : Value} {l : List MsgV} (h : MsgsAt F w v l) (hs : ∀ m ∈ l, m.topic.size ≤ 200000000000000 ∧ m.pay.length ≤ 200000000000000) :
    Calls Try.prog 5 #[v] w fun e w' => e = .returned (.bool (smallB l)) ∧ Below w.heap.size w w' := by
  obtain ⟨xs, hr⟩ : ∃ xs, RowAt w 4 v l.length xs := by obtain ⟨pvs, _, h, _⟩ := h; exact ⟨_, h.1⟩
  obtain ⟨_, a, cap, rfl, hcap, hmax, _⟩ := hr
  unfold maxLen at hmax
  have H := Lib.hid h
  have HS := Lib.hid hs
  obtain ⟨n, hn⟩ : ∃ n, l.length = n := ⟨_, rfl⟩
  have HN := Lib.hid hn
  rw [hn] at hcap H ⊢
  clear h hs hn
  go_enter Try.func5, Try.ntmps5
  go_wp2_with fail
  go_loopg [3, 4] (61 - 0) (fun g s3 s4 wr => ∃ j : Nat, s4 = .int .i64 (j : Nat) ∧ s3 = .int .i64 ((weight (l.take j) : Nat) : Int) ∧ j + g = 61 ∧ j ≤ n ∧ weight (l.take j) ≤ 60001 + 400000000000000 ∧ Below w.heap.size w wr)
  case atStart => exact ⟨0, rfl, by simp [weight], by omega, Nat.zero_le _, by simp [weight], Below.refl _ _⟩
  case round =>
    obtain ⟨j, rfl, rfl, hjg, hjn, hjw, hbw⟩ := hrel
    have HBW := Lib.hid hbw
    have hmono := weight_mono l j
    obtain ⟨A, hA⟩ : ∃ A, weight (l.take j) = A := ⟨_, rfl⟩
    have HA := Lib.hid hA
    rw [hA] at hjw hmono ⊢
    have fin : ∀ (B : Bool), B = (decide (n ≤ 60) && decide (A ≤ 60000)) → (n ≤ 60 → A ≤ 60000 → j = n) → B = smallB l := fun B hB hj => by
      rw [hB]
      unfold smallB
      rw [HN.out]
      by_cases h1 : n ≤ 60
      · by_cases h2 : A ≤ 60000
        · have h3 : weight l = A := by
            have h4 := HA.out
            rwa [List.take_of_length_le (by have := HN.out; have := hj h1 h2; omega)] at h4
          rw [h3]
        · rw [decide_eq_false h2, decide_eq_false (show ¬ weight l ≤ 60000 by omega)]
      · rw [decide_eq_false h1]; simp
    have FIN := Lib.hid fin
    have dl : decide ((n : Int) ≤ 60) = decide (n ≤ 60) := by simp [decide_eq_decide]; omega
    have da : decide ((A : Int) ≤ 60000) = decide (A ≤ 60000) := by simp [decide_eq_decide]; omega
    have dj : decide ((j : Int) ≤ 60) = decide (j ≤ 60) := by simp [decide_eq_decide]; omega
    clear fin hA hmono hbw
    by_cases hjn' : j = n
    · subst hjn'
      have hd : decide ((j : Int) < (j : Int)) = false := decide_eq_false (by omega)
      by_cases h1 : j ≤ 60
      · have d1 : decide ((j : Int) ≤ 60) = true := decide_eq_true (by omega)
        go_wp2_with fail
        go_ret
        exact ⟨ret_bool (FIN.out _ (by simp [h1]) (by simp)), HBW.out⟩
      · have d1 : decide ((j : Int) ≤ 60) = false := decide_eq_false (by omega)
        go_wp2_with fail
        go_ret
        exact ⟨ret_bool (FIN.out _ (by simp [h1]) (by simp)), HBW.out⟩
    · have hlt : j < n := by omega
      have hd : decide ((j : Int) < (n : Int)) = true := decide_eq_true (by omega)
      by_cases h1 : j ≤ 60
      · have d1 : decide ((j : Int) ≤ 60) = true := decide_eq_true (by omega)
        by_cases h2 : A ≤ 60000
        · have d2 : decide ((A : Int) ≤ 60000) = true := decide_eq_true (by omega)
          have hb1 : (0 : Int) ≤ (j : Int) := by omega
          have hb2 : (j : Int) < (n : Int) := by omega
          obtain ⟨m, hm⟩ : ∃ m, l[j]? = some m := ⟨_, List.getElem?_eq_getElem (show j < l.length by have := HN.out; omega)⟩
          obtain ⟨b, off, rfl⟩ : ∃ b off, a = some ⟨b, off, none⟩ := by
            obtain ⟨pvs, _, h2, _⟩ := H.out
            rcases RowAt.cases h2.1 with ⟨h0, _⟩ | ⟨_, b', off', cap', e, _⟩
            · have := HN.out; omega
            · injection e with e1 e2 e3
              exact ⟨b', off', e1⟩
          have hM := H.out
          rw [← HN.out] at hM
          obtain ⟨pv, k0, k1, k2, k3, M1⟩ := (hM.keep (Same.below HBW.out)).one hm
          rw [← Nat.add_assoc] at k1
          obtain ⟨pv', hpv, hrow⟩ := M1
          have hpv' : pv = pv' := by injection hpv with hpv; simpa using hpv
          subst hpv'
          obtain ⟨⟨_, ap, cp, rfl, _⟩, _⟩ := hrow
          obtain ⟨hs1, hs2⟩ := HS.out m (List.mem_of_getElem? hm)
          have hstep : weight (l.take (j + 1)) = A + (1 + m.topic.size + m.pay.length) := by rw [weight_take, HA.out, hm]; rfl
          have HST := Lib.hid hstep
          clear hM hpv hstep k2 k3
          have z0 := regr_cell k0
          have z1 := regr_cell k1
          go_wp2_with fail
          go_quiet (fail)
          have hbx := HBW.out.trans ((below_drew wr nq).mono HBW.out.size)
          have HBX := Lib.hid hbx
          clear hbx z0 z1 k0 k1
          generalize wr.drewN nq = V at HBX ⊢
          go_wp2_with fail
          go_roundg (gk - 1)
          case measure => omega
          case rel => exact ⟨j + 1, by go_num, by rw [HST.out]; congr 1; omega, by omega, by omega, by rw [HST.out]; omega, HBX.out⟩
        · have d2 : decide ((A : Int) ≤ 60000) = false := decide_eq_false (by omega)
          by_cases h3 : n ≤ 60
          · have d3 : decide ((n : Int) ≤ 60) = true := decide_eq_true (by omega)
            go_wp2_with fail
            go_ret
            exact ⟨ret_bool (FIN.out _ (by simp [h2, h3]) (fun _ h => absurd h h2)), HBW.out⟩
          · have d3 : decide ((n : Int) ≤ 60) = false := decide_eq_false (by omega)
            go_wp2_with fail
            go_ret
            exact ⟨ret_bool (FIN.out _ (by simp [h3]) (fun h => absurd h h3)), HBW.out⟩
      · have d1 : decide ((j : Int) ≤ 60) = false := decide_eq_false (by omega)
        have d3 : decide ((n : Int) ≤ 60) = false := decide_eq_false (by omega)
        go_wp2_with fail
        go_ret
        exact ⟨ret_bool (FIN.out _ (by simp; omega) (fun h => by omega)), HBW.out⟩
end Go.Proofs.Ytgnffkahlniehaa
