/- Proved here: the functions of the document's cache, the rest. -/
import Derived.Test.YteboancapfgdeaaCcRef
namespace Go.Proofs.Yteboancapfgdeaa
open Go.RowKit Go.Proofs.Cc

set_option maxRecDepth 100000 in
set_option maxHeartbeats 1000000 in
theorem refFirst_any {w : World} {m most : Nat} {S : Nat → Prop} {L : List (Int × Int)} (R : RefAt 120 w m S most L) (k v : Int) (hlen : L.length ≤ 1048577) :
    Calls Try.prog 131 #[.pointer (some ⟨m, 0, none⟩), .int .i64 k, .int .i64 v] w fun ex w' => ex = .returned (.tuple #[]) ∧ RefAt 120 w' m (Grow S w) most ((k, v) :: L) ∧ Turn S w w' := by
  obtain ⟨i0, hi, hz0, hz1, hz2⟩ := info_parts infoEntry
  obtain ⟨u, hm1, hown, hv⟩ := R.list
  have HR := Lib.hid R
  have hfm := R.live.frozen 1 none
  have hml := R.live.lt
  have hown1 : (w.alloc (.cells #[.int .i64 k, .int .i64 v] 120)).ownsRow w.heap.size 120 2 (.slice (some ⟨w.heap.size, 0, none⟩) 1 1) 1 [.int .i64 k, .int .i64 v] := World.ownsRow_lit w #[.int .i64 k, .int .i64 v] 1 (Nat.le_refl _) (by unfold maxLen; omega) rfl
  rcases hown.2 with ⟨rfl, h0⟩ | ⟨g, cap, cur, rfl, -, hg, hn, hm, -, -⟩
  · obtain rfl := List.eq_nil_of_length_eq_zero h0
    have hset := ref_set (L' := [(k, v)]) (T := Grow S w) R ((Turn.refl S w).alloc (.cells #[.int .i64 k, .int .i64 v] 120)) (World.cell?_of_block (w := w) (a := ⟨m, 0, none⟩) (Below.heap_alloc w _ m hml)) ⟨_, (World.cell?_of_block (w := w) (a := ⟨m, 1, none⟩) (Below.heap_alloc w _ m hml)).trans hm1⟩
      (by obtain ⟨cs, t, hx⟩ := R.live; exact ⟨cs, t, (Below.heap_alloc w _ m hml).trans hx⟩) (by
        refine ⟨hown1.1, ?_⟩
        rcases hown1.2 with ⟨h2, _⟩ | ⟨g', cap', cur', e1, _, r⟩
        · cases h2
        · exact .inr ⟨g', cap', cur', e1, Nat.zero_le _, r⟩) (fun x e => by cases e; exact ⟨.inr (Nat.le_refl _), fun e => by simp only at e; omega⟩) (fun x hx => hx)
    have HSET := Lib.hid hset
    clear hset hown hv R
    go_enter Try.func131, Try.ntmps131
    go_wp2_with (at_builtin; refine wpList_append_own_none rfl _ _ 107 rfl w.heap.size 120 i0 2 Try.underlying107 hi _ _ _ rfl hown1 rfl ?_)
    go_wp2_with fail
    go_end0
    rw [← World.setCell_alloc_past _ _ _ _ hml]
    exact ⟨rfl, HSET.out.1, HSET.out.2⟩
  · have hnews : ∀ j x, (rows L)[j]? = some x → (w.alloc (.cells #[.int .i64 k, .int .i64 v] 120)).cell? ((⟨g, 0, none⟩ : Addr).add j) = some x := by
      have := part_cells (hown.alloc (.cells #[.int .i64 k, .int .i64 v] 120)) rfl 0 L ⟨[], by simp⟩
      simpa using this
    have HO := Lib.hid hown
    clear hown hv R hg
    go_enter Try.func131, Try.ntmps131
    go_wp2_with (at_builtin; refine wpList_append_own _ rfl _ _ 107 rfl w.heap.size 120 i0 (.agg #[.int .i64 0, .int .i64 0]) 2 16 Try.underlying107 hi hz0 hz1 hz2 rfl (by decide) _ _ _ rfl hown1 ⟨g, 0, none⟩ L.length cap (rows L) rfl ?c1 hnews (rows_one _) ?c3 ?c4 ?c5 ?_)
    case c1 => rw [rows_length]
    case c3 => unfold maxLen; omega
    case c4 => omega
    case c5 => simp
    intro v2 w2 hown3 hgrow2 _
    obtain ⟨a2, c2, rfl⟩ := owns_shape hown3
    have hne : some m ≠ (Value.slice (some ⟨w.heap.size, 0, none⟩) 1 1).ownBlock := fun e => by simp [Value.ownBlock] at e; omega
    have hb2 : w2.heap[m]? = w.heap[m]? := (hgrow2.block m (by simp; omega) hne).trans (Below.heap_alloc w _ m hml)
    have hm1'' : w2.cell? ⟨m, 1, none⟩ = some (.slice (some ⟨g, 0, none⟩) L.length cap) := (World.cell?_of_block (w := w) (a := ⟨m, 1, none⟩) hb2).trans hm1
    have hl2 : Live w2 m := by obtain ⟨cs, t, hx⟩ := HR.out.live; exact ⟨cs, t, hb2.trans hx⟩
    have hf2 := hl2.frozen 1 none
    have T2 : Turn S w w2 := ((Turn.refl S w).alloc _).grown hgrow2 (fun x e => by cases e; exact .inr (Nat.le_refl _))
    have hset := ref_set (L' := (k, v) :: L) (T := Grow S w) HR.out T2 (World.cell?_of_block (w := w) (a := ⟨m, 0, none⟩) hb2) ⟨_, hm1''⟩ hl2 (by
        have e1 : 1 + L.length = ((k, v) :: L).length := by simp; omega
        rw [← e1]
        refine ⟨hown3.1, ?_⟩
        rcases hown3.2 with h2 | ⟨g', cap', cur', e1, _, r⟩
        · exact .inl h2
        · exact .inr ⟨g', cap', cur', e1, Nat.zero_le _, r⟩) (fun x e => ⟨.inr (hown3.lt x e).1, by have := (hown3.lt x e).1; omega⟩) (fun x hx => hx)
    have HSET := Lib.hid hset
    clear hset hown3 hgrow2 hb2 T2 hnews hm1 hown1
    go_wp2_with fail
    go_end0
    exact ⟨rfl, HSET.out.1, HSET.out.2⟩

theorem refGet_any {w : World} {m most : Nat} {S : Nat → Prop} {L : List (Int × Int)} (R : RefAt 120 w m S most L) (k : Int) (hlen : L.length ≤ 1048576) :
    Calls Try.prog 48 #[.pointer (some ⟨m, 0, none⟩), .int .i64 k] w fun ex w' =>
      ((∀ p ∈ L, p.1 ≠ k) ∧ ex = .returned (.tuple #[.int .i64 0, .bool false]) ∧ w' = w) ∨
      (∃ p v q, L = p ++ (k, v) :: q ∧ (∀ x ∈ p, x.1 ≠ k) ∧ ex = .returned (.tuple #[.int .i64 v, .bool true]) ∧ RefAt 120 w' m (Grow S w) most ((k, v) :: (p ++ q)) ∧ Turn S w w') := by
  go_enter Try.func48, Try.ntmps48
  go_wp2_with fail
  refine (refTake_any R k (by omega)).mono ?_
  rintro ex w1 (⟨hno, rfl, rfl⟩ | ⟨p, v, q, hL, hp, rfl, R1, T1⟩)
  · have HN := Lib.hid hno
    clear hno R
    go_wp2_with fail
    refine bodyPost_ret (results_tmp2 rfl _ _ _) rfl ?_
    exact .inl ⟨HN.out, rfl, rfl⟩
  · have HL := Lib.hid hL
    have HP := Lib.hid hp
    have HT := Lib.hid T1
    have hl1 : (p ++ q).length ≤ 1048577 := by have := congrArg List.length hL; simp at this ⊢; omega
    clear hL hp T1 R
    go_wp2_with fail
    refine (refFirst_any R1 k v hl1).mono ?_
    rintro ex w2 ⟨rfl, R2, T2⟩
    have HR2 := Lib.hid R2
    have HT2 := Lib.hid T2
    clear R1 R2 T2
    go_wp2_with fail
    refine bodyPost_ret (results_tmp2 rfl _ _ _) rfl ?_
    exact .inr ⟨p, v, q, HL.out, HP.out, rfl, HR2.out.wider (fun x hx => hx.elim id (fun y => .inr (Nat.le_trans HT.out.size y))), HT.out.trans HT2.out⟩

theorem refDrop_any {w : World} {m most : Nat} {S : Nat → Prop} {L : List (Int × Int)} (R : RefAt 120 w m S most L) (k : Int) (hlen : L.length ≤ 1048576) :
    Calls Try.prog 52 #[.pointer (some ⟨m, 0, none⟩), .int .i64 k] w fun ex w' =>
      ex = .returned (.bool (L.any (fun p => decide (p.1 = k)))) ∧ RefAt 120 w' m (Grow S w) most (rmR k L) ∧ Turn S w w' := by
  go_enter Try.func52, Try.ntmps52
  go_wp2_with fail
  refine (refTake_any R k (by omega)).mono ?_
  rintro ex w1 (⟨hno, rfl, rfl⟩ | ⟨p, v, q, hL, hp, rfl, R1, T1⟩)
  · have HN := Lib.hid hno
    have HR := Lib.hid R
    clear hno R
    go_wp2_with fail
    go_ret
    rw [rmR_none HN.out]
    refine ⟨?_, HR.out.wider (fun x hx => .inl hx), Turn.refl _ _⟩
    have : L.any (fun p => decide (p.1 = k)) = false := by rw [List.any_eq_false]; intro x hx; simpa using HN.out x hx
    rw [this]
    rfl
  · have HL := Lib.hid hL
    have HP := Lib.hid hp
    have HT := Lib.hid T1
    have HR1 := Lib.hid R1
    clear hL hp T1 R R1
    go_wp2_with fail
    go_ret
    rw [HL.out, rmR_mid HP.out]
    exact ⟨by simp, HR1.out, HT.out⟩

theorem refClear_any {w : World} {m most : Nat} {S : Nat → Prop} {L : List (Int × Int)} (R : RefAt 120 w m S most L) :
    Calls Try.prog 54 #[.pointer (some ⟨m, 0, none⟩)] w fun ex w' =>
      ex = .returned (.int .i64 L.length) ∧ RefAt 120 w' m (Grow S w) most [] ∧ Turn S w w' := by
  obtain ⟨u, hm1, hown, hv⟩ := R.list
  have hset := ref_set (L' := []) (v := .slice none 0 0) (T := Grow S w) R (Turn.refl S w) rfl ⟨_, hm1⟩ R.live (World.ownsRow_nil _ _ _ _) (fun x e => by cases e) (fun x hx => hx)
  have HSET := Lib.hid hset
  have hfm := R.live.frozen 1 none
  obtain ⟨a, c, rfl⟩ := owns_shape hown
  clear hset R hown hv
  go_enter Try.func54, Try.ntmps54
  go_wp2_with fail
  go_ret
  exact ⟨rfl, HSET.out.1, HSET.out.2⟩

theorem refOldest_any {w : World} {m most : Nat} {S : Nat → Prop} {L : List (Int × Int)} (R : RefAt 120 w m S most L) (hlen : L.length ≤ 1048576) :
    Calls Try.prog 57 #[.pointer (some ⟨m, 0, none⟩)] w fun ex w' =>
      ex = .returned (.tuple #[.int .i64 ((L.getLast?.map (·.1)).getD 0), .bool L.getLast?.isSome]) ∧ Below w.heap.size w w' := by
  obtain ⟨u, hm1, hown, hv⟩ := R.list
  by_cases hL : L = []
  · subst hL
    obtain ⟨a, c, rfl⟩ := owns_shape hown
    clear R hown hv
    go_enter Try.func57, Try.ntmps57
    go_wp2_with fail
    refine bodyPost_ret (results_tmp2 rfl _ _ _) rfl ?_
    exact ⟨rfl, Below.refl _ _⟩
  · obtain ⟨g, cap, cur, rfl, -, hg, hn, hm, -, -⟩ : ∃ g cap cur, u = .slice (some ⟨g, 0, none⟩) L.length cap ∧ 0 ≤ g ∧ w.heap[g]? = some (.cells cur 120 (0, 0)) ∧ L.length ≤ cap ∧ cap ≤ maxLen ∧ cur.size = cap * 2 ∧ cur.toList.take (L.length * 2) = rows L := by
      rcases hown.2 with ⟨rfl, h0⟩ | h
      · exact absurd (List.eq_nil_of_length_eq_zero h0) hL
      · exact h
    obtain ⟨n, hn1⟩ : ∃ n, L.length = n + 1 := ⟨L.length - 1, by have := List.length_pos_iff.2 hL; omega⟩
    have hlast : L.getLast? = some (L.getLast hL) := List.getLast?_eq_some_getLast hL
    have hat : L[n]? = some (L.getLast hL) := by rw [← hlast, List.getLast?_eq_getElem?, hn1]; rfl
    have hc : w.cell? ⟨g, n * 2, none⟩ = some (.int .i64 (L.getLast hL).1) := (hown.cellAt (n * 2) (by omega)).trans (rows_get L n _ hat).1
    have hlz : (((n + 1 : Nat) : Int) == 0) = false := by rw [beq_eq_false_iff_ne]; omega
    have hlz' : ((n : Int) + 1 == 0) = false := by rw [beq_eq_false_iff_ne]; omega
    have i0 : (0 : Int) ≤ (n : Int) := by omega
    have i1 : (n : Int) < (n : Int) + 1 := by omega
    have hm' : cap ≤ 9223372036854775807 := hm
    rw [hn1] at hm1 hn
    have HLA := Lib.hid hlast
    generalize L.getLast hL = e at hc HLA
    clear R hown hv hg hm hlast hat
    go_enter Try.func57, Try.ntmps57
    go_wp2_with fail
    go_region
    go_wp2_with fail
    refine bodyPost_ret (results_tmp2 rfl _ _ _) rfl ?_
    rw [HLA.out]
    exact ⟨rfl, (Below.refl _ _).drew⟩

def clampN (m : Int) : Nat := (min (max m 0) 1048576).toNat

theorem refNew_any {w : World} (m : Int) :
    Calls Try.prog 44 #[.int .i64 m] w fun ex w' => ex = .returned (.pointer (some ⟨w.heap.size, 0, none⟩)) ∧ (∀ S : Nat → Prop, S w.heap.size → RefAt 120 w' w.heap.size S (clampN m) []) ∧ Below w.heap.size w w' ∧ w'.heap.size = w.heap.size + 1 := by
  have key : ∀ n : Nat, ∀ S : Nat → Prop, S w.heap.size → RefAt 120 (w.alloc (.cells #[.int .i64 n, .slice none 0 0] 109)) w.heap.size S n [] := by
    intro n S hS
    have hh := (MapKept.heap_alloc w (.cells #[.int .i64 n, .slice none 0 0] 109)).1
    exact ⟨by unfold World.cell?; rw [hh]; rfl, ⟨.slice none 0 0, by unfold World.cell?; rw [hh]; rfl, World.ownsRow_nil _ _ _ _, fun g e => by cases e⟩, ⟨_, _, hh⟩, hS⟩
  have HK := Lib.hid key
  clear key
  by_cases h0 : m < 0
  · have hc : clampN m = 0 := by unfold clampN; omega
    have d1 : decide (m < 0) = true := by simpa using h0
    have d2 : decide ((0 : Int) > 1048576) = false := by decide
    rw [hc]
    clear hc h0
    go_enter Try.func44, Try.ntmps44
    go_wp2_with fail
    go_ret
    exact ⟨rfl, HK.out 0, (Below.refl _ _).alloc (Nat.le_refl _) _, by simp⟩
  · have d1 : decide (m < 0) = false := by simpa using h0
    by_cases h1 : 1048576 < m
    · have hc : clampN m = 1048576 := by unfold clampN; omega
      have d2 : decide (1048576 < m) = true := by simpa using h1
      rw [hc]
      clear hc h0 h1
      go_enter Try.func44, Try.ntmps44
      go_wp2_with fail
      go_ret
      exact ⟨rfl, HK.out 1048576, (Below.refl _ _).alloc (Nat.le_refl _) _, by simp⟩
    · have hc : ((clampN m : Nat) : Int) = m := by unfold clampN; omega
      have d2 : decide (1048576 < m) = false := by simpa using h1
      have hk := HK.out (clampN m)
      rw [hc] at hk
      have HK2 := Lib.hid hk
      clear hc h0 h1 hk
      go_enter Try.func44, Try.ntmps44
      go_wp2_with fail
      go_ret
      exact ⟨rfl, HK2.out, (Below.refl _ _).alloc (Nat.le_refl _) _, by simp⟩

theorem refPut_any {w : World} {m most : Nat} {S : Nat → Prop} {L : List (Int × Int)} (R : RefAt 120 w m S most L) (k v : Int) (hlen : L.length ≤ 1048576) :
    Calls Try.prog 50 #[.pointer (some ⟨m, 0, none⟩), .int .i64 k, .int .i64 v] w fun ex w' =>
      ex = .returned (.tuple #[]) ∧ RefAt 120 w' m (Grow S w) most (putR most k v L) ∧ Turn S w w' := by
  go_enter Try.func50, Try.ntmps50
  go_wp2_with fail
  refine (show Calls Try.prog 130 #[.pointer (some ⟨m, 0, none⟩), .int .i64 k] w (fun ex w' => (∃ r, ex = .returned r) ∧ RefAt 120 w' m (Grow S w) most (rmR k L) ∧ Turn S w w') from
    (refTake_any R k (by omega)).mono ?_).mono ?_
  · rintro ex w1 (⟨hno, rfl, rfl⟩ | ⟨p, v, q, hL, hp, rfl, R1, T1⟩)
    · rw [rmR_none hno]
      exact ⟨⟨_, rfl⟩, R.wider (fun x hx => .inl hx), Turn.refl _ _⟩
    · rw [hL, rmR_mid hp]
      exact ⟨⟨_, rfl⟩, R1, T1⟩
  rintro ex w1 ⟨⟨r, rfl⟩, R1, T1⟩
  have HT := Lib.hid T1
  have hl1 : (rmR k L).length ≤ 1048577 := Nat.le_trans (length_rmR k L) (by omega)
  clear T1 R
  go_wp2_with fail
  refine (refFirst_any R1 k v hl1).mono ?_
  rintro ex w2 ⟨rfl, R2, T2⟩
  obtain ⟨u, hm1, hown, hv⟩ := R2.list
  have hm0 := R2.most
  have HR2 := Lib.hid R2
  have HT2 := Lib.hid (HT.out.trans T2)
  have HG := Lib.hid (show ∀ x, Grow (Grow S w) w1 x → Grow S w x from fun x hx => hx.elim id (fun y => .inr (Nat.le_trans HT.out.size y)))
  have hfm := R2.live.frozen 1 none
  have hs12 := T2.size
  obtain ⟨g, cap, cur, rfl, -, hg, hn, hm, -, -⟩ : ∃ g cap cur, u = .slice (some ⟨g, 0, none⟩) ((k, v) :: rmR k L).length cap ∧ 0 ≤ g ∧ w2.heap[g]? = some (.cells cur 120 (0, 0)) ∧ ((k, v) :: rmR k L).length ≤ cap ∧ cap ≤ maxLen ∧ cur.size = cap * 2 ∧ cur.toList.take (((k, v) :: rmR k L).length * 2) = rows ((k, v) :: rmR k L) := by
    rcases hown.2 with ⟨rfl, h0⟩ | h
    · simp at h0
    · exact h
  have hm' : cap ≤ 9223372036854775807 := hm
  have HO := Lib.hid hown
  have HV := Lib.hid hv
  clear R1 R2 T2 hown hv hg hm
  rw [List.length_cons] at hm1 hn
  by_cases hover : most < (rmR k L).length + 1
  · have d1 : decide ((most : Int) < ((rmR k L).length : Int) + 1) = true := by simp; omega
    have i0 : (0 : Int) ≤ (most : Int) := by omega
    have i1 : (most : Int) ≤ ((rmR k L).length : Int) + 1 := by omega
    have i2 : (most : Int) ≤ (cap : Int) := by omega
    have hset := ref_set (L' := ((k, v) :: rmR k L).take most) (T := Grow (Grow S w) w1) HR2.out (Turn.refl _ _) rfl ⟨_, hm1⟩ HR2.out.live (v := .slice (some ⟨g, 0, none⟩) most cap) (owns_take HO.out most (by rw [List.length_cons]; omega))
      (fun x e => ⟨.inl (HV.out x e).1, (HV.out x e).2⟩) (fun x hx => hx.elim id (fun y => .inr (Nat.le_trans hs12 y)))
    have HSET := Lib.hid hset
    have HOV := Lib.hid hover
    clear hset hover
    go_wp2_with fail
    go_region
    go_wp2_with fail
    go_region
    go_wp2_with fail
    go_end0
    have hp : putR most k v L = ((k, v) :: rmR k L).take most := by unfold putR; rw [if_pos (by rw [List.length_cons]; exact HOV.out)]
    rw [hp]
    refine ⟨rfl, (HSET.out.1.wider HG.out).frame (fun _ _ _ => rfl), ?_⟩
    exact ((HT2.out.trans (HSET.out.2.mono (fun x hx => HG.out x hx))).drew).drew
  · have d1 : decide ((most : Int) < ((rmR k L).length : Int) + 1) = false := by simp; omega
    have HOV := Lib.hid hover
    clear hover
    go_wp2_with fail
    go_region
    go_wp2_with fail
    go_end0
    have hp : putR most k v L = (k, v) :: rmR k L := by unfold putR; rw [if_neg (by rw [List.length_cons]; exact HOV.out)]
    rw [hp]
    exact ⟨rfl, (HR2.out.wider HG.out).frame (fun _ _ _ => rfl), HT2.out.drew⟩

end Go.Proofs.Yteboancapfgdeaa
