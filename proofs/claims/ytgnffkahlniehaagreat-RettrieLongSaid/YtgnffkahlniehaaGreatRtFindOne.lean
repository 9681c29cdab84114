/- Proved here: Find of a trie, gone through by a function that goes on. -/
import Derived.Test.YtgnffkahlniehaaGreatRtAllOne
import Derived.Test.YtgnffkahlniehaaGreatRtFind
import Derived.StillTailTactics
namespace Go.Proofs.YtgnffkahlniehaaGreat
open Go Go.RowKit Go.Proofs.Gs Go.Proofs.Tri Go.Proofs.Rt Go.Proofs.Tp

theorem owns_more {w : World} {B B' E k n : Nat} {v : Value} {xs : List Value} (h : w.ownsRow B E k v n xs) (hB : B' ≤ B) : w.ownsRow B' E k v n xs := by
  obtain ⟨h0, h⟩ := h
  refine ⟨h0, ?_⟩
  rcases h with h | ⟨g, cap, cur, h1, h2, h3⟩
  · exact .inl h
  · exact .inr ⟨g, cap, cur, h1, Nat.le_trans hB h2, h3⟩

set_option maxHeartbeats 2000000 in
set_option maxRecDepth 100000 in
/-- What stands in a trie, handed on as a message. -/
theorem fy_any {g base N yb : Nat} {caps : Array Value} {JJ : (Nat → Prop) → List MsgV → World → Prop} (TK : Taker g caps base N JJ) {X F : Nat → Prop} {pre : List MsgV} {m : MsgV} {b : Nat} {W : World}
    (hy : W.cell? ⟨yb, 0, none⟩ = some (.func (.func g) #[] caps)) (hxy : X yb) (hJ : JJ X pre W) (hl : pre.length < N) (hm : MsgAt F W b m) (hmem : X b) (hp : m.pay.length ≤ 1000000000) :
    Calls Tryz.prog 38 (#[.pointer (some ⟨b, 0, none⟩)] ++ #[.pointer (some ⟨yb, 0, none⟩)]) W fun e W' => e = .returned (.bool true) ∧ JJ X (pre ++ [m]) W' ∧ Keeps X W W' := by
  obtain ⟨pv, hpc, hpr⟩ := hm.c1
  have k0 := hm.c0
  have k2 := hm.c2
  have k3 := hm.c3
  have HP := Lib.hid hpr
  have HLEN := Lib.hid hp
  have HL := Lib.hid hl
  have HJ := Lib.hid hJ
  have HTK := Lib.hid TK
  have hcall := TK.enters
  have HKS := Lib.hid (show ∀ w' : World, Keeps X W w' → (w'.cell? ⟨yb, 0, none⟩ = some (.func (.func g) #[] caps) ∧ w'.cell? ⟨b, 0, none⟩ = some (.string m.topic) ∧ w'.cell? ⟨b, 1, none⟩ = some pv ∧ w'.cell? ⟨b, 2, none⟩ = some (.int .i64 m.qos) ∧ w'.cell? ⟨b, 3, none⟩ = some (.bool m.ret)) from fun w' h => ⟨h.2.cell hxy hy, h.2.cell hmem k0, h.2.cell hmem hpc, h.2.cell hmem k2, h.2.cell hmem k3⟩)
  clear hpr hp hl hJ TK hm
  simp only [List.append_toArray, List.cons_append, List.nil_append]
  go_enter Tryz.func38, Tryz.ntmps38
  go_wp2_with fail
  first
    | (go_region_held3 (fun w' => (w'.cell? ⟨yb, 0, none⟩ = some (.func (.func g) #[] caps) ∧ w'.cell? ⟨b, 0, none⟩ = some (.string m.topic) ∧ w'.cell? ⟨b, 1, none⟩ = some pv ∧ w'.cell? ⟨b, 2, none⟩ = some (.int .i64 m.qos) ∧ w'.cell? ⟨b, 3, none⟩ = some (.bool m.ret)))
        (first
          | go_keep
          | exact HKS.out _ (keeps_below ((Below.refl _ W).drew))
          | exact HKS.out _ (keeps_below HB5.out)
          | exact HKS.out _ ((keeps_below HB5.out).trans HK6.out)
          | fail "keep")
        (first
          | (go_at_call 26
             refine (own_any (F := F) (w := W.drew) (v := .agg #[.string m.topic, pv, .int .i64 m.qos, .bool m.ret]) (m := m) ⟨pv, rfl, HP.out.keep (fun _ _ _ => rfl)⟩ HLEN.out).mono ?_
             rintro e W5 ⟨v5, rfl, hv5, hb5⟩
             have HV5 := Lib.hid hv5
             have HB5 := Lib.hid (show Below W.heap.size W W5 from ((Below.refl _ W).drew).trans hb5)
             clear hv5 hb5)
          | (refine (HTK.out.takes _ _ m v5 W W5 HJ.out HL.out HLEN.out HB5.out HV5.out).mono ?_
             rintro e W6 ⟨rfl, hj6, hk6, ho6⟩
             have HJ6 := Lib.hid hj6
             have HK6 := Lib.hid hk6
             clear hj6 hk6 ho6)
          | fail "arm"))
    | fail "x"
  go_wp2_with fail
  go_ret
  exact ⟨rfl, HJ6.out, (keeps_below HB5.out).trans HK6.out⟩

set_option maxHeartbeats 4000000 in
set_option maxRecDepth 100000 in
theorem find1_gives {F : Nat → Prop} {w : World} {tb b1 b2 N : Nat} {t : Tree} (T : TrieAt F w tb t) (hsh : Short t) (f : ByteArray) (hf : f.size ≤ 1000000000) (hb1 : w.cell? ⟨b1, 0, none⟩ = some (.pointer (some ⟨tb, 0, none⟩))) (hb2 : w.cell? ⟨b2, 0, none⟩ = some (.string f)) (hk : Keyed (body t)) (hN : (findV f t).length ≤ N) :
    Gives 34 #[.pointer (some ⟨b2, 0, none⟩), .pointer (some ⟨b1, 0, none⟩)] w N (findV f t) := by
  intro g caps base JJ X W TK hbase hbW hX hJ
  have hFo : ∀ x, F x → X x := fun x hx => hX x (T.old x hx)
  have T1 := T.below hbW
  have c1 := cell_below hbW hb1
  have c2 := cell_below hbW hb2
  obtain ⟨p, c0, hn⟩ := T1.root
  have hXlt : ∀ x, X x → x < W.heap.size := fun x hx => TK.old X [] W x hJ hx
  have hpay : ∀ m ∈ findV f t, m.pay.length ≤ 1000000000 := fun m hm => by
    rw [findV_eq T.forest hk] at hm
    obtain ⟨e, he, rfl⟩ := List.mem_map.1 hm
    exact hsh e (List.mem_filter.1 he).1
  have HT := Lib.hid T1
  have HTK := Lib.hid TK
  have HFX := Lib.hid hFo
  have HXL := Lib.hid hXlt
  have HN := Lib.hid hn
  have HPAY := Lib.hid hpay
  have g0 := (MapKept.heap_alloc W (.cells #[.func (.func g) #[] caps] 77)).1
  have hb0 : Below W.heap.size W (W.alloc (.cells #[.func (.func g) #[] caps] 77)) := (Below.refl _ _).alloc (Nat.le_refl _) _
  have hs0 : (W.alloc (.cells #[.func (.func g) #[] caps] 77)).heap.size = W.heap.size + 1 := by simp
  have d0 := cell_below hb0 c0
  have d1 := cell_below hb0 c1
  have d2 := cell_below hb0 c2
  have HJ := Lib.hid (TK.more X (fun x => X x ∨ x = W.heap.size) [] W _ hJ hb0 (fun x hx => hx.imp id (fun e => by omega)))
  clear T T1 TK hJ hX hFo hXlt hn hb1 hb2 hbW hpay c0 c1 c2
  simp only [List.append_toArray, List.cons_append, List.nil_append]
  by_cases h0 : (shared f).isSome = true ∨ chkF f ≠ 0
  · have hv : findV f t = [] := by unfold findV; rw [if_pos h0]
    rw [hv]
    clear hv
    cases hsf : shared f with
    | some q =>
      obtain ⟨gr, inner⟩ := q
      have HS := Lib.hid (sharedV_some hsf)
      clear hsf h0
      go_enter Tryz.func34, Tryz.ntmps34
      go_wp2_with fail
      generalize W.alloc (.cells #[.func (.func g) #[] caps] 77) = W0 at g0 hb0 hs0 d0 d1 d2 HJ ⊢
      go_wp2_with fail
      refine (shared_any f _ hf).mono ?_
      rintro e w1 ⟨rfl, hb1⟩
      rw [HS.out]
      have HB1 := Lib.hid hb1
      clear hb1
      go_wp2_with fail
      refine bodyPost_ret (results_none rfl _ _ _) rfl ?_
      exact ⟨rfl, HTK.out.more _ X _ _ _ HJ.out HB1.out (fun x hx => .inl (.inl hx))⟩
    | none =>
      have HS := Lib.hid (sharedV_none hsf)
      have hcf : (chkF f != 0) = true := by
        rw [bne_iff_ne]
        rcases h0 with h | h
        · rw [hsf] at h; simp at h
        · exact h
      clear hsf h0
      go_enter Tryz.func34, Tryz.ntmps34
      go_wp2_with fail
      generalize W.alloc (.cells #[.func (.func g) #[] caps] 77) = W0 at g0 hb0 hs0 d0 d1 d2 HJ ⊢
      go_wp2_with fail
      refine (shared_any f _ hf).mono ?_
      rintro e w1 ⟨rfl, hb1⟩
      rw [HS.out]
      have e2 := cell_below hb1 d2
      have HB1 := Lib.hid hb1
      clear hb1
      go_wp2_with fail
      refine (checkFilter_any f _ hf).mono ?_
      rintro e w2 ⟨rfl, hb2⟩
      have HB2 := Lib.hid (HB1.out.trans (hb2.mono HB1.out.size))
      clear hb2
      go_wp2_with fail
      refine bodyPost_ret (results_none rfl _ _ _) rfl ?_
      exact ⟨rfl, HTK.out.more _ X _ _ _ HJ.out HB2.out (fun x hx => .inl (.inl hx))⟩
  · have hsf : shared f = none := by
      cases hs : shared f with
      | none => rfl
      | some q => exact absurd (.inl (by rw [hs]; rfl)) h0
    have HS := Lib.hid (sharedV_none hsf)
    have hcf : (chkF f != 0) = false := by
      rw [bne_eq_false_iff_eq]
      exact Decidable.byContradiction fun h => h0 (.inr h)
    have hv : findV f t = fnd hashB plusB dollarB t (levels f) (fSign f) := by unfold findV; rw [if_neg h0]
    have hlf := levels_len f hf
    obtain ⟨x, hx⟩ : ∃ x, (levels f)[0]? = some x := ⟨(levels f)[0]'hlf.1, List.getElem?_eq_getElem _⟩
    have hhx : (levels f).head?.map (·.data.toList) = some x.data.toList := by rw [List.head?_eq_getElem?, hx]; rfl
    have HX0 := Lib.hid hx
    have hsg : fSign f = (decide (x.data.toList = [43]) || decide (x.data.toList = [35])) := by
      unfold fSign
      rw [hhx]
      simp
    have HLF := Lib.hid hlf
    obtain ⟨fs, hc, hcase⟩ : ∃ fs : Bool, fSign f = fs ∧ (((x.toList == [43]) = true ∧ fs = true) ∨ ((x.toList == [43]) = false ∧ (x.toList == [35]) = fs)) := by
      rw [hsg]
      refine ⟨_, rfl, ?_⟩
      rw [strEq, strEq]
      by_cases h43 : x.data.toList = [43]
      · exact .inl (by simp [h43])
      · exact .inr (by simp [h43])
    obtain ⟨ms, hms⟩ : ∃ ms, findV f t = ms := ⟨_, rfl⟩
    rw [hms] at hv hN HPAY ⊢
    rw [hc] at hv
    have HV := Lib.hid hv
    clear hsf h0 hv hlf hhx hsg hx hms hc
    have hgen : ∀ (w4 : World) (b o c n : Nat), (levels f).length = n → Below (W.alloc (.cells #[.func (.func g) #[] caps] 77)).heap.size (W.alloc (.cells #[.func (.func g) #[] caps] 77)) w4 → w4.ownsRow (W.heap.size + 1) 9 1 (.slice (some ⟨b, o, none⟩) n c) n ((levels f).map Value.string) →
        ∀ k, Calls Tryz.prog 37 #[.pointer (some ⟨p, 0, none⟩), .slice (some ⟨b, o, none⟩) n c, .bool fs, .func (.func 38) #[] #[.pointer (some ⟨W.heap.size, 0, none⟩)]] (w4.drewN k) fun e W' => e = .returned (.bool true) ∧ JJ X ms W' := fun w4 b o c n hn hb4 hown k => by
      rw [← hn] at hown
      obtain ⟨w5, hw5⟩ : ∃ w5, w4.drewN k = w5 := ⟨_, rfl⟩
      rw [hw5]
      have hb5 : Below w4.heap.size w4 w5 := by rw [← hw5]; exact below_drew w4 k
      have hb45 := hb4.trans (hb5.mono hb4.size)
      have hbW : Below W.heap.size W w5 := hb0.trans (hb45.mono (by omega))
      have hs5 : W.heap.size + 1 ≤ w5.heap.size := by have := hb45.size; omega
      have hstr : StrsF (fun x => F x ∨ (W.heap.size ≤ x ∧ x < w5.heap.size)) w5 (.slice (some ⟨b, o, none⟩) n c) (levels f) := by rw [← hn] at *; exact RowF.of_owns (owns_below hown hb5) (fun g' h1 h2 => .inr ⟨by omega, h2⟩)
      have hnode := NodeAt.mono (F' := fun x => F x ∨ (W.heap.size ≤ x ∧ x < w5.heap.size)) (fun x hx => .inl hx) (NodeAt.keep hbW HN.out)
      have hJ5 := HTK.out.more _ (fun x => X x ∨ (W.heap.size ≤ x ∧ x < w5.heap.size)) [] _ w5 HJ.out hb45 (fun x hx => by
        rcases hx with hx | hx
        · exact .inl (.inl hx)
        · by_cases he : x = W.heap.size
          · exact .inl (.inr he)
          · exact .inr ⟨by omega, hx.2⟩)
      have hyb : w5.cell? ⟨W.heap.size, 0, none⟩ = some (.func (.func g) #[] caps) := by
        refine cell_below hb45 ?_
        unfold World.cell?; simp only; rw [g0]; rfl
      have hxl : ∀ x, F x → x < w5.heap.size := fun x hx => by have := HXL.out x (HFX.out x hx); omega
      have hfind := find_any (F := fun x => F x ∨ (W.heap.size ≤ x ∧ x < w5.heap.size)) (w0 := w5) (ms := ms) (fun x hx => by rcases hx with hx | hx; exact hxl x hx; exact hx.2) 38 #[.pointer (some ⟨W.heap.size, 0, none⟩)] (enters_of Tryz.func38 (by kernel_rfl) rfl)
        (fun i W' => JJ (fun x => X x ∨ (W.heap.size ≤ x ∧ x < w5.heap.size)) (ms.take i) W' ∧ Keeps (fun x => X x ∨ (W.heap.size ≤ x ∧ x < w5.heap.size)) w5 W')
        (fun i W' h => (h.2.sub (fun x hx => hx.imp (HFX.out x) id)).2)
        (fun i m mb W' hm h hmm => by
          have hml := (List.getElem?_eq_some_iff.1 hm).1
          refine (fy_any HTK.out (X := fun x => X x ∨ (W.heap.size ≤ x ∧ x < w5.heap.size)) (h.2.2.cell (.inr ⟨Nat.le_refl _, by omega⟩) hyb) (.inr ⟨Nat.le_refl _, by omega⟩) h.1 (by rw [List.length_take]; omega) (hmm.keep (h.2.sub (fun x hx => hx.imp (HFX.out x) id)).2) (hmm.mem.imp (HFX.out _) id) (HPAY.out m (List.mem_of_getElem? hm))).mono ?_
          rintro e W6 ⟨rfl, h6, k6⟩
          refine ⟨rfl, ?_, h.2.trans k6⟩
          rw [List.take_add_one, hm]
          exact h6)
        t p 0 w5 (.slice (some ⟨b, o, none⟩) n c) (levels f) fs hnode HT.out.forest HT.out.lim hstr (fun j a ha => by rw [Nat.zero_add, HV.out]; exact ha) ⟨by rw [List.take_zero]; exact hJ5, Keeps.refl _ _⟩
      refine hfind.mono ?_
      rintro e W' ⟨rfl, h7, _⟩
      refine ⟨rfl, ?_⟩
      rw [← HV.out, Nat.zero_add, List.take_of_length_le (Nat.le_refl _)] at h7
      exact HTK.out.more _ X _ _ _ h7 (Below.refl _ _) (fun x hx => .inl (.inl hx))
    have HGEN := Lib.hid hgen
    clear hgen HJ HV HPAY HTK
    rcases hcase with ⟨h43, rfl⟩ | ⟨h43, h35⟩
    all_goals
      go_enter Tryz.func34, Tryz.ntmps34
      go_wp2_with fail
      generalize W.alloc (.cells #[.func (.func g) #[] caps] 77) = W0 at g0 hb0 hs0 d0 d1 d2 HGEN ⊢
      go_wp2_with fail
      refine (shared_any f _ hf).mono ?_
      rintro e w1 ⟨rfl, hb1⟩
      rw [HS.out]
      have e2 := cell_below hb1 d2
      have HB1 := Lib.hid hb1
      clear hb1
      go_wp2_with fail
      refine (checkFilter_any f _ hf).mono ?_
      rintro e w2 ⟨rfl, hb2⟩
      have e3 := cell_below hb2 e2
      have HB2 := Lib.hid (HB1.out.trans (hb2.mono HB1.out.size))
      clear hb2 e2
      go_wp2_with fail
      refine (levels_any f _ hf).mono ?_
      rintro e w4 ⟨v, rfl, hown, hb4⟩
      have HB4 := Lib.hid (HB2.out.trans (hb4.mono HB2.out.size))
      obtain ⟨b, o, c, rfl, q1, q2, q3, q4⟩ := (StrsAt.of_owns hown).open HLF.out.1
      have hx0 : w4.cell? ⟨b, o, none⟩ = some (.string x) := q4 0 x HX0.out
      have a0 := cell_below HB4.out d0
      have a1 := cell_below HB4.out d1
      have hown' := owns_more (B' := W.heap.size + 1) hown (by have := HB2.out.size; omega)
      obtain ⟨n, hn⟩ : ∃ n, (levels f).length = n := ⟨_, rfl⟩
      have hn0 : 0 < n := by rw [← hn]; exact HLF.out.1
      have hnI : (0 : Int) < (n : Int) := by omega
      have HOWN := Lib.hid hown'
      have HNN := Lib.hid hn
      have hcap : (levels f).length ≤ 9223372036854775807 := by have := HLF.out.2; omega
      rw [hn] at q1 HOWN ⊢
      clear hown hown' q4 hb4 e3 d0 d1 d2 hn q3
      go_wp2_with fail
      go_still_tail 16, (by kernel_rfl)
      change wpList _ _ _ _ _ w4.drew
      go_wp2_with fail
      refine (HGEN.out w4 b o c n HNN.out HB4.out HOWN.out 1).mono ?_
      rintro e w6 ⟨rfl, hj6⟩
      have HJ6 := Lib.hid hj6
      clear hj6
      go_wp2_with fail
      go_end0
      exact ⟨rfl, HJ6.out⟩
end Go.Proofs.YtgnffkahlniehaaGreat
