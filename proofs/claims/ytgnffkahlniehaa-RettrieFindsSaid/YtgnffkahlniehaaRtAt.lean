/- Proved here: the node at a path. -/
import Derived.Test.YtgnffkahlniehaaRtLeft
namespace Go.Proofs.Ytgnffkahlniehaa
open Go Go.RowKit Go.Proofs.Gs Go.Proofs.Tri Go.Proofs.Rt Go.Proofs.Tp

theorem below_drew (w : World) (m : Nat) : Below w.heap.size w (w.drewN m) := ⟨rfl, rfl, rfl, Nat.le_refl _, fun _ _ => rfl⟩
theorem below_undrew (w : World) (m : Nat) : Below (w.drewN m).heap.size (w.drewN m) w := ⟨rfl, rfl, rfl, Nat.le_refl _, fun _ _ => rfl⟩

/-- What a trie's node is, for a walk. -/
structure Good (F : Nat → Prop) (w : World) (p : Nat) (t : Tree) : Prop where
  node : NodeAt F w p t
  forest : Forest ltB t.kids
  lim : Lim t

theorem Good.below {F : Nat → Prop} {w w' : World} {p : Nat} {t : Tree} (h : Good F w p t) (hb : Below w.heap.size w w') : Good F w' p t := ⟨NodeAt.keep hb h.node, h.forest, h.lim⟩

/-- What at answers. -/
def AtPost (F : Nat → Prop) (w : World) (r : Option Tree) (e : Ending) : Prop :=
  match r with
  | some n => ∃ q, e = .returned (.pointer (some ⟨q, 0, none⟩)) ∧ Good F w q n
  | none => e = .returned (.pointer none)

/-- An edge that begins with a level: where it stands, and that it is good. -/
theorem Good.kid {F : Nat → Prop} {w : World} {p : Nat} {t k : Tree} {x : ByteArray} {sv mv kv : Value} {bs : List Nat} (O : Rt.Open F w p t sv mv kv bs) (hf : Forest ltB t.kids) (hl : Lim t) (hk : kidAt ltB x t.kids = some k) :
    ∃ b c off cap xs, kv = .slice (some ⟨c, off, none⟩) bs.length cap ∧ place ltB x t.kids < bs.length ∧ bs.length ≤ cap ∧ cap ≤ 9223372036854775807 ∧ w.cell? ⟨c, off + place ltB x t.kids, none⟩ = some (.pointer (some ⟨b, 0, none⟩)) ∧ Good F w b k ∧ k.lv = x :: xs ∧ k.lv.length ≤ 1000000001 ∧ k ∈ t.kids := by
  obtain ⟨A, B, xs, hks, hA, hlv, _, _⟩ := kidAt_some linB hf hk
  have hmem : k ∈ t.kids := by rw [hks]; simp
  have hkg : t.kids[place ltB x t.kids]? = some k := by rw [← hA]; conv => lhs; rw [hks]
                                                        simp
  have hpl := (List.getElem?_eq_some_iff.1 hkg).1
  have hlt : place ltB x t.kids < bs.length := by rw [O.hl]; exact hpl
  rcases RowAt.cases O.hk with ⟨hz, _⟩ | ⟨hpos, c, off, cap, rfl, hnc, hcm, hb, hc⟩
  · omega
  · have hbg : bs[place ltB x t.kids]? = some bs[place ltB x t.kids] := List.getElem?_eq_getElem hlt
    refine ⟨bs[place ltB x t.kids], c, off, cap, xs, rfl, hlt, hnc, hcm, hc _ _ (by rw [List.getElem?_map, hbg]; rfl), ⟨O.hn _ _ _ hbg hkg, (hf.ok k hmem).forest, (hl.kid hmem).1⟩, hlv, hl.lv hf hmem, hmem⟩

theorem bsf_open {F : Nat → Prop} {w : World} {p : Nat} {t : Tree} {sv mv kv : Value} {bs : List Nat} (O : Rt.Open F w p t sv mv kv bs) (hf : Forest ltB t.kids) (hl : Lim t) (x : ByteArray) (m : Nat) :
    Calls Try.prog 46 #[kv, .string x, .func (.func 47) #[] #[]] (w.drewN m)
      fun e w' => e = .returned (.tuple #[.int .i64 (place ltB x t.kids), .bool (kidAt ltB x t.kids).isSome]) ∧ w' = w.drewN m := by
  have O' := O.below (below_drew w m)
  exact bsf_any O'.hk O'.hl O'.hn hf (hl.kids hf)

theorem equal_drew {w : World} {v1 v2 : Value} {L1 L2 : List ByteArray} (h1 : StrsAt w v1 L1) (h2 : StrsAt w v2 L2) (hl1 : L1.length ≤ 1000000001) (m : Nat) :
    Calls Try.prog 48 #[v1, v2] (w.drewN m) fun e w' => e = .returned (.bool (decide (L1 = L2))) ∧ ∃ q, w' = (w.drewN m).drewN q := equalS_any (h1.below (below_drew w m)) (h2.below (below_drew w m)) hl1

set_option maxHeartbeats 4000000 in
set_option maxRecDepth 100000 in
theorem at_any {F : Nat → Prop} {w : World} {p : Nat} {t : Tree} (G : Good F w p t) {pv : Value} {path : List ByteArray} (hp : StrsAt w pv path) (hpl : path.length ≤ 1000000001) :
    Calls Try.prog 25 #[.pointer (some ⟨p, 0, none⟩), pv] w fun e w' => AtPost F w (nodeAt ltB t path) e ∧ ∃ m, w' = w.drewN m := by
  have HG := Lib.hid G
  have HP := Lib.hid hp
  clear G hp
  go_enter Try.func25, Try.ntmps25
  go_wp2_with fail
  go_loopg [0, 1, 5, 6] path.length (fun g nv qv iv ov wr => ∃ (p' : Nat) (t' : Tree) (path' : List ByteArray), nv = .pointer (some ⟨p', 0, none⟩) ∧ Good F wr p' t' ∧ StrsAt wr qv path' ∧ nodeAt ltB t path = nodeAt ltB t' path' ∧ path'.length ≤ g ∧ path'.length ≤ 1000000001 ∧ ∃ m, wr = w.drewN m)
  case atStart => exact ⟨p, t, path, rfl, HG.out, HP.out, rfl, Nat.le_refl _, hpl, 0, rfl⟩
  case round =>
    obtain ⟨p', t', path', rfl, hG, hQ, heq, hlen, hlen2, hW⟩ := hrel
    have HEQ := Lib.hid heq
    have HW := Lib.hid hW
    have HGG := Lib.hid hG
    clear heq hW hG
    cases path' with
    | nil =>
      obtain ⟨a, cap, rfl⟩ := hQ.open_nil
      clear hQ
      have hfin : nodeAt ltB t path = some t' := by rw [HEQ.out, nodeAt_nil]
      have HFIN := Lib.hid hfin
      clear hfin
      go_wp2_with fail
      go_ret
      refine ⟨?_, HW.out⟩
      rw [HFIN.out]
      obtain ⟨m, hm⟩ := HW.out
      exact ⟨p', rfl, by have := HGG.out.below (by rw [hm]; exact below_undrew w m : Below wr.heap.size wr w); exact this⟩
    | cons x xs =>
      obtain ⟨sv, mv, kv, bs, O⟩ := HGG.out.node.open
      obtain ⟨b1, o1, c1, rfl, p1, p2, p3, p4⟩ := hQ.open (by simp)
      have k1 := p4 0 x rfl
      rw [Nat.add_zero] at k1
      have kc := O.c2
      obtain ⟨n, hn⟩ : ∃ n, (x :: xs).length = n := ⟨_, rfl⟩
      have hn0 : 0 < n := by rw [← hn]; simp
      rw [hn] at hQ p1 hlen hlen2 ⊢
      have hb1 : (0 : Int) < (n : Int) := by omega
      have hd : decide ((0 : Int) < (n : Int)) = true := decide_eq_true hb1
      have hd2 : decide (0 < n) = true := decide_eq_true hn0
      have HO := Lib.hid O
      have HQ := Lib.hid hQ
      have HN := Lib.hid hn
      have HP4 := Lib.hid p4
      clear O hQ hn p4
      cases hk : kidAt ltB x t'.kids with
      | none =>
        have hfin : nodeAt ltB t path = none := by rw [HEQ.out, nodeAt_none hk]
        have HFIN := Lib.hid hfin
        have hso : (kidAt ltB x t'.kids).isSome = false := by rw [hk]; rfl
        have HSO := Lib.hid hso
        clear hfin hk hso
        go_wp2_with fail
        go_quiet ((go_at_call 46; exact Calls.quiet_of_same (bsf_open HO.out HGG.out.forest HGG.out.lim x _)))
        rw [HSO.out]
        go_wp2_with fail
        go_ret
        refine ⟨by rw [HFIN.out]; rfl, ?_⟩
        obtain ⟨m, rfl⟩ := HW.out
        exact drewN_two w _ _
      | some k =>
        have hso : (kidAt ltB x t'.kids).isSome = true := by rw [hk]; rfl
        have HSO := Lib.hid hso
        obtain ⟨b, c2, off2, cap2, ys, rfl, hlt, hnc, hcm, kk, hGk, hlvk, hlen3, hmem⟩ := Good.kid HO.out HGG.out.forest HGG.out.lim hk
        have hstep : nodeAt ltB t path = if (x :: xs).take k.lv.length = k.lv then nodeAt ltB k (xs.drop (k.lv.length - 1)) else none := by rw [HEQ.out, nodeAt_some hk]
        have HST := Lib.hid hstep
        have HGK := Lib.hid hGk
        have HLV := Lib.hid hlvk
        obtain ⟨q, hq⟩ : ∃ q, place ltB x t'.kids = q := ⟨_, rfl⟩
        obtain ⟨nb, hnb⟩ : ∃ nb, bs.length = nb := ⟨_, rfl⟩
        have HQQ := Lib.hid hq
        have HNB := Lib.hid hnb
        rw [hq] at hlt kk
        rw [hnb] at hlt hnc kc
        clear hk hso hstep hGk hlvk hmem hq hnb
        go_wp2_with fail
        go_quiet ((go_at_call 46; exact Calls.quiet_of_same (by rw [← HNB.out]; exact bsf_open HO.out HGG.out.forest HGG.out.lim x _)))
        rw [HSO.out, HQQ.out]
        go_wp2_with fail
        have hGV := HGK.out.below (below_drew wr nq)
        have hQV := HQ.out.below (below_drew wr nq)
        have hWV : ∃ m, wr.drewN nq = w.drewN m := by obtain ⟨m, rfl⟩ := HW.out; exact drewN_two w _ _
        clear kk kc k1 HW HQ HO HGK HP4 HSO
        generalize wr.drewN nq = V at hGV hQV hWV ⊢
        obtain ⟨sv2, mv2, kv2, bs2, O2⟩ := hGV.node.open
        obtain ⟨b3, o3, c3, rfl, r1, r2, r3, r4⟩ := Tp.StrsAt.open O2.hs (by rw [HLV.out]; simp)
        have kc2 := O2.c0
        have HS2 := Lib.hid O2.hs
        obtain ⟨m, hm⟩ : ∃ m, k.lv.length = m := ⟨_, rfl⟩
        have hm0 : 0 < m := by rw [← hm, HLV.out]; simp
        have HM := Lib.hid hm
        rw [hm] at hlen3 kc2 r1
        have HWV := Lib.hid hWV
        have HGV := Lib.hid hGV
        clear O2 hm hWV hGV r4 r3
        by_cases hle : n < m
        · have hd3 : decide ((n : Int) < (m : Int)) = true := decide_eq_true (by omega)
          have hfin : nodeAt ltB t path = none := by
            rw [HST.out, if_neg]
            intro e
            have := congrArg List.length e
            rw [List.length_take, HM.out, HN.out] at this
            omega
          have HFIN := Lib.hid hfin
          clear hfin
          go_quiet (fail)
          go_wp2_with fail
          go_ret
          refine ⟨by rw [HFIN.out]; rfl, ?_⟩
          obtain ⟨m', rfl⟩ := HWV.out
          exact drewN_two w _ _
        · have hd3 : decide ((n : Int) < (m : Int)) = false := decide_eq_false (by omega)
          have hmn : m ≤ n := by omega
          have hmc : m ≤ c1 := by omega
          have hb3 : (m : Int) ≤ (c1 : Int) := by omega
          have hb4 : (m : Int) ≤ (n : Int) := by omega
          have htk : StrsAt V (.slice (some ⟨b1, o1, none⟩) m c1) ((x :: xs).take m) := by
            obtain ⟨a, cap, e, s1, s2, s3⟩ := hQV
            injection e with e1 e2 e3
            subst e1; subst e3
            refine ⟨_, _, by rw [List.length_take, HN.out, Nat.min_eq_left hmn], by rw [List.length_take, HN.out, Nat.min_eq_left hmn]; omega, s2, ?_⟩
            rcases s3 with s3 | ⟨bb, oo, e4, s4⟩
            · simp at s3
            · refine .inr ⟨bb, oo, e4, fun i y hy => s4 i y ?_⟩
              rw [List.getElem?_take] at hy
              split at hy
              · exact hy
              · cases hy
          have HTK := Lib.hid htk
          have HQV := Lib.hid hQV
          have hlt2 : ((x :: xs).take m).length ≤ 1000000001 := by rw [List.length_take]; omega
          have HLT := Lib.hid hlt2
          have hst2 : nodeAt ltB t path = if (x :: xs).take m = k.lv then nodeAt ltB k (xs.drop (m - 1)) else none := by rw [HST.out, HM.out]
          have HST2 := Lib.hid hst2
          clear htk hQV hlt2 hst2 HST
          obtain ⟨r, hr⟩ : ∃ r, decide ((x :: xs).take m = k.lv) = r := ⟨_, rfl⟩
          have HR := Lib.hid hr
          clear hr
          have hcall : ∀ q, Calls Try.prog 48 #[.slice (some ⟨b1, o1, none⟩) m c1, .slice (some ⟨b3, o3, none⟩) m c3] (V.drewN q) fun e w' => e = .returned (.bool r) ∧ ∃ q', w' = (V.drewN q).drewN q' := fun q => by
            have h2 := HS2.out
            rw [HM.out] at h2
            rw [← HR.out]
            exact equal_drew HTK.out h2 HLT.out q
          have HCC := Lib.hid hcall
          clear hcall
          go_quiet ((go_at_call 48; exact Calls.quiet_of (HCC.out _)))
          cases r with
          | false =>
            have hfin : nodeAt ltB t path = none := by rw [HST2.out, if_neg (of_decide_eq_false HR.out)]
            have HFIN := Lib.hid hfin
            clear hfin
            go_wp2_with fail
            go_ret
            refine ⟨by rw [HFIN.out]; rfl, ?_⟩
            obtain ⟨m', rfl⟩ := HWV.out
            exact drewN_two w _ _
          | true =>
            have hmm : xs.drop (m - 1) = (x :: xs).drop m := by
              obtain ⟨m', rfl⟩ : ∃ m', m = m' + 1 := ⟨m - 1, by omega⟩
              rfl
            have hfin : nodeAt ltB t path = nodeAt ltB k ((x :: xs).drop m) := by rw [HST2.out, if_pos (of_decide_eq_true HR.out), hmm]
            have HFIN := Lib.hid hfin
            have hWW : ∃ m', V.drewN nq = w.drewN m' := by obtain ⟨m', rfl⟩ := HWV.out; exact drewN_two w _ _
            have HWW := Lib.hid hWW
            have hGW := HGV.out.below (below_drew V nq)
            have kc3 : (V.drewN nq).cell? ⟨b, 0, none⟩ = some (.slice (some ⟨b3, o3, none⟩) m c3) := kc2
            have hcut : StrsAt (V.drewN nq) (.slice (if c1 = m then some ⟨b1, o1, none⟩ else some ⟨b1, o1 + m, none⟩) (n - m) (c1 - m)) ((x :: xs).drop m) := by
              have hq := HQV.out.below (below_drew V nq)
              obtain ⟨a, cap, e, s1, s2, s3⟩ := hq
              injection e with e1 e2 e3
              subst e1; subst e3
              unfold maxLen at s2
              rcases s3 with s3 | ⟨bb, oo, e4, s4⟩
              · simp at s3
              · injection e4 with e4; injection e4 with e5 e6; subst e5; subst e6
                exact StrsAt.drop m hmn HN.out p1 s2 s4 _ (fun hlt => by rw [if_neg (by omega)])
            have hlen4 : ((x :: xs).drop m).length = n - m := by rw [List.length_drop, HN.out]
            have HGW := Lib.hid hGW
            have HL4 := Lib.hid hlen4
            clear hfin hmm hWW hGW hlen4 kc2 HCC HS2 HTK HLT HQV HWV HGV HST2
            generalize V.drewN nq = U at kc3 hcut HWW HGW ⊢
            by_cases hc1 : c1 = m
            all_goals
              first | rw [if_pos hc1] at hcut | rw [if_neg hc1] at hcut
              have HCUT := Lib.hid hcut
              clear hcut
              go_wp2_with fail
              go_roundg (gk - 1)
              case measure => omega
              case rel => exact ⟨b, k, (x :: xs).drop m, rfl, HGW.out, by first | exact HCUT.out | (have h := HCUT.out; rw [hc1] at h; exact h) | (have h := HCUT.out; simpa [hc1] using h), HFIN.out, by rw [HL4.out]; omega, by rw [HL4.out]; omega, HWW.out⟩
end Go.Proofs.Ytgnffkahlniehaa
