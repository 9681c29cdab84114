/- Proved here: the functions of the document's cache. -/
import Derived.Test.YteboancapfgdeaaProg
import Derived.Test.YteboancapfgdeaaCcRefP
import Derived.Deep.DeepCutAuto
import Derived.Lib.Hide
import Derived.BigRegion
import Derived.Laws.AppendOwnNone
namespace Go.Proofs.Yteboancapfgdeaa
open Go.RowKit Go.Proofs.Cc

theorem infoEntry : (Try.prog.info? 120).map (fun i => (i.zero, i.size, i.bytes)) = some (some (.agg #[.int .i64 0, .int .i64 0]), 2, 16) := by kernel_rfl

set_option maxRecDepth 100000 in
set_option maxHeartbeats 2000000 in
theorem refTake_any {w : World} {m most : Nat} {S : Nat → Prop} {L : List (Int × Int)} (R : RefAt 120 w m S most L) (key : Int) (hlen : L.length ≤ 1048577) :
    Calls Try.prog 130 #[.pointer (some ⟨m, 0, none⟩), .int .i64 key] w fun ex w' =>
      ((∀ p ∈ L, p.1 ≠ key) ∧ ex = .returned (.tuple #[.int .i64 0, .bool false]) ∧ w' = w) ∨
      (∃ p v q, L = p ++ (key, v) :: q ∧ (∀ x ∈ p, x.1 ≠ key) ∧ ex = .returned (.tuple #[.int .i64 v, .bool true]) ∧ RefAt 120 w' m (Grow S w) most (p ++ q) ∧ Turn S w w') := by
  obtain ⟨i0, hi, hz0, hz1, hz2⟩ := info_parts infoEntry
  obtain ⟨v, hm1, hown, hv⟩ := R.list
  have HR := Lib.hid R
  have hfm := R.live.frozen 1 none
  by_cases hL : L = []
  · subst hL
    obtain ⟨a, cap, rfl⟩ : ∃ a cap, v = .slice a 0 cap := by
      rcases hown.2 with ⟨rfl, _⟩ | ⟨g, cap, cur, rfl, _⟩
      · exact ⟨_, _, rfl⟩
      · exact ⟨_, _, rfl⟩
    clear hown hv
    go_enter Try.func130, Try.ntmps130
    go_wp2_with fail
    go_loopg [6] 0 (fun g i wr => i = .int .i64 0 ∧ wr = w)
    case atStart => exact ⟨rfl, rfl⟩
    case round =>
      obtain ⟨rfl, rfl⟩ := hrel
      go_wp2_with fail
      refine bodyPost_ret (results_tmp2 rfl _ _ _) rfl ?_
      exact .inl ⟨by simp, rfl, rfl⟩
  · obtain ⟨g, cap, cur, rfl, -, hg, hn, hm, -, -⟩ : ∃ g cap cur, v = .slice (some ⟨g, 0, none⟩) L.length cap ∧ 0 ≤ g ∧ w.heap[g]? = some (.cells cur 120 (0, 0)) ∧ L.length ≤ cap ∧ cap ≤ maxLen ∧ cur.size = cap * 2 ∧ cur.toList.take (L.length * 2) = rows L := by
      rcases hown.2 with ⟨rfl, h0⟩ | h
      · exact absurd (List.eq_nil_of_length_eq_zero h0) hL
      · exact h
    have hcell : ∀ i p, L[i]? = some p → w.cell? ⟨g, i * 2, none⟩ = some (.int .i64 p.1) ∧ w.cell? ⟨g, i * 2 + 1, none⟩ = some (.int .i64 p.2) := by
      intro i p hp
      have hr := rows_get L i p hp
      have hil : i < L.length := (List.getElem?_eq_some_iff.1 hp).1
      exact ⟨(hown.cellAt (i * 2) (by omega)).trans hr.1, (hown.cellAt (i * 2 + 1) (by omega)).trans hr.2⟩
    have hm' : cap ≤ 9223372036854775807 := hm
    have HO := Lib.hid hown
    have HV := Lib.hid hv
    have HCELL := Lib.hid hcell
    clear hg hown hm hcell R hv
    go_enter Try.func130, Try.ntmps130
    go_wp2_with fail
    go_loopg [6] L.length (fun g i wr => ∃ k, k + g = L.length ∧ i = .int .i64 (k : Nat) ∧ wr = w ∧ ∀ x ∈ L.take k, x.1 ≠ key)
    case atStart => exact ⟨0, by omega, rfl, rfl, by simp⟩
    case round =>
      obtain ⟨k, hkg, rfl, rfl, hno⟩ := hrel
      have HN := Lib.hid hno
      clear hno
      cases gk with
      | zero =>
        obtain rfl : k = L.length := by omega
        go_wp2_with fail
        refine bodyPost_ret (results_tmp2 rfl _ _ _) rfl ?_
        exact .inl ⟨by have := HN.out; rwa [List.take_length] at this, rfl, rfl⟩
      | succ gk =>
        have hkl : k < L.length := by omega
        have hk := List.getElem?_eq_getElem hkl
        have hk0 := (HCELL.out k _ hk).1
        have hk1 := (HCELL.out k _ hk).2
        have HK := Lib.hid hk
        generalize L[k] = e at hk0 hk1 HK
        clear hk
        have hi0 : (0 : Int) ≤ (k : Int) := by omega
        have hi1 : (k : Int) < (L.length : Int) := by omega
        cases hc : (e.1 == key) with
        | false =>
          go_wp2_with fail
          go_roundg gk
          case measure => omega
          case rel =>
            refine ⟨k + 1, by omega, by go_num, rfl, ?_⟩
            intro x hx
            rw [List.take_add_one, HK.out] at hx
            rcases List.mem_append.1 hx with y | y
            · exact HN.out x y
            · simp at y
              subst y
              simpa using hc
        | true =>
          have hkey : e.1 = key := by simpa using hc
          have hnews1 := part_cells HO.out rfl 0 (L.take k) ⟨L.drop k, by simp⟩
          go_wp2_with (at_builtin; refine wpList_append_own _ rfl _ _ 107 rfl wr.heap.size 120 i0 (.agg #[.int .i64 0, .int .i64 0]) 2 16 Try.underlying107 hi hz0 hz1 hz2 rfl (by decide) _ 0 [] rfl (World.ownsRow_nil _ _ _ _) ⟨g, 0, none⟩ k cap (rows (L.take k)) rfl ?c1 ?c2 (rows_one _) ?c3 ?c4 (Nat.le_refl _) ?_)
          case c1 => rw [rows_length, List.length_take]; omega
          case c2 => simpa using hnews1
          case c3 => unfold maxLen; omega
          case c4 => omega
          intro v1 w1 hown1 hgrow1 hnil1
          have hm1' : w1.cell? ⟨m, 1, none⟩ = some (.slice (some ⟨g, 0, none⟩) L.length cap) := hgrow1.cell hm1 (by simp [Value.ownBlock])
          clear hm1
          have hi2 : (0 : Int) ≤ (k : Int) + 1 := by omega
          have hi3 : (k : Int) + 1 ≤ (L.length : Int) := by omega
          have hw1s := hgrow1.size
          have hown2 := World.ownsRow.kept HO.out hgrow1 (.inr (by simp [Value.ownBlock]))
          clear hnews1
          by_cases hcap : cap = k + 1
          · have hnews2 : ∀ j u, (rows (L.drop (k + 1)))[j]? = some u → w1.cell? ((⟨g, 0, none⟩ : Addr).add j) = some u := by
              intro j u hj
              rw [List.drop_eq_nil_of_le (by omega)] at hj
              simp [rows] at hj
            go_wp2_with (at_builtin; refine wpList_append_own _ rfl _ _ 107 rfl wr.heap.size 120 i0 (.agg #[.int .i64 0, .int .i64 0]) 2 16 Try.underlying107 hi hz0 hz1 hz2 rfl (by decide) v1 _ _ rfl hown1 ⟨g, 0, none⟩ (L.length - (k + 1)) ?cc (rows (L.drop (k + 1))) ?hx ?c1 hnews2 (rows_one _) ?c3 ?c4 ?c5 ?_)
            case hx => first | rfl | (simp; done)
            case c1 => rw [rows_length, List.length_drop]
            case c3 => unfold maxLen; omega
            case c4 => omega
            case c5 => exact hw1s
            intro v2 w2 hown3 hgrow2 hnil2
            obtain ⟨a2, c2, rfl⟩ := owns_shape hown3
            have hmw := HR.out.live.lt
            have hv1m : some m ≠ v1.ownBlock := fun e => by have := (hown1.lt m e.symm).1; omega
            have hm1'' : w2.cell? ⟨m, 1, none⟩ = some (.slice (some ⟨g, 0, none⟩) L.length cap) := hgrow2.cell hm1' hv1m
            have T2 : Turn S wr w2 := ((Turn.refl S wr).grown hgrow1 (fun x e => by cases e)).grown hgrow2 (fun x e => .inr (hown1.lt x e).1)
            have hb1 : w1.heap[m]? = wr.heap[m]? := hgrow1.block m hmw (by simp [Value.ownBlock])
            have hb2 : w2.heap[m]? = wr.heap[m]? := (hgrow2.block m (by omega) hv1m).trans hb1
            have hl2 : Live w2 m := by obtain ⟨cs, t, hx⟩ := HR.out.live; exact ⟨cs, t, hb2.trans hx⟩
            have hf2 := hl2.frozen 1 none
            have hm0 : w2.cell? ⟨m, 0, none⟩ = wr.cell? ⟨m, 0, none⟩ := World.cell?_of_block (w := wr) (a := ⟨m, 0, none⟩) hb2
            have hLL : L = L.take k ++ (key, e.2) :: L.drop (k + 1) := by
              have h1 := (List.getElem?_eq_some_iff.1 HK.out)
              have h2 := List.take_append_drop k L
              rw [List.drop_eq_getElem_cons h1.1, h1.2] at h2
              rw [← hkey]
              exact h2.symm
            have hlen2 : k + (L.length - (k + 1)) = (L.take k ++ L.drop (k + 1)).length := by simp; omega
            have hown4 : w2.ownsRow 0 120 2 (.slice a2 (k + (L.length - (k + 1))) c2) (L.take k ++ L.drop (k + 1)).length (rows (L.take k ++ L.drop (k + 1))) := by
              rw [← hlen2, rows_app]
              refine ⟨hown3.1, ?_⟩
              rcases hown3.2 with h2 | ⟨g', cap', cur', e1, _, r⟩
              · exact .inl h2
              · exact .inr ⟨g', cap', cur', e1, Nat.zero_le _, r⟩
            have hset := ref_set (T := Grow S wr) HR.out T2 hm0 ⟨_, hm1''⟩ hl2 hown4 (fun x e => ⟨.inr (hown3.lt x e).1, by have := (hown3.lt x e).1; omega⟩) (fun x hx => hx)
            have HSET := Lib.hid hset
            have HLL := Lib.hid hLL
            clear hset hLL hown4 hlen2 hown3 hgrow2 hm0 hb1 hb2 hnil2 hgrow1 hnil1 hown1 T2
            go_wp2_with fail
            refine bodyPost_ret (results_tmp2 rfl _ _ _) rfl ?_
            exact .inr ⟨_, _, _, HLL.out, HN.out, rfl, HSET.out.1, HSET.out.2⟩
          · have hnews2 := part_cells hown2 rfl (k + 1) (L.drop (k + 1)) ⟨[], by simp⟩
            go_wp2_with (at_builtin; refine wpList_append_own _ rfl _ _ 107 rfl wr.heap.size 120 i0 (.agg #[.int .i64 0, .int .i64 0]) 2 16 Try.underlying107 hi hz0 hz1 hz2 rfl (by decide) v1 _ _ rfl hown1 ⟨g, (k + 1) * 2, none⟩ (L.length - (k + 1)) (cap - (k + 1)) (rows (L.drop (k + 1))) ?hx ?c1 hnews2 (rows_one _) ?c3 ?c4 ?c5 ?_)
            case hx => first | rfl | (simp; done)
            case c1 => rw [rows_length, List.length_drop]
            case c3 => unfold maxLen; omega
            case c4 => omega
            case c5 => exact hw1s
            intro v2 w2 hown3 hgrow2 hnil2
            obtain ⟨a2, c2, rfl⟩ := owns_shape hown3
            have hmw := HR.out.live.lt
            have hv1m : some m ≠ v1.ownBlock := fun e => by have := (hown1.lt m e.symm).1; omega
            have hm1'' : w2.cell? ⟨m, 1, none⟩ = some (.slice (some ⟨g, 0, none⟩) L.length cap) := hgrow2.cell hm1' hv1m
            have T2 : Turn S wr w2 := ((Turn.refl S wr).grown hgrow1 (fun x e => by cases e)).grown hgrow2 (fun x e => .inr (hown1.lt x e).1)
            have hb1 : w1.heap[m]? = wr.heap[m]? := hgrow1.block m hmw (by simp [Value.ownBlock])
            have hb2 : w2.heap[m]? = wr.heap[m]? := (hgrow2.block m (by omega) hv1m).trans hb1
            have hl2 : Live w2 m := by obtain ⟨cs, t, hx⟩ := HR.out.live; exact ⟨cs, t, hb2.trans hx⟩
            have hf2 := hl2.frozen 1 none
            have hm0 : w2.cell? ⟨m, 0, none⟩ = wr.cell? ⟨m, 0, none⟩ := World.cell?_of_block (w := wr) (a := ⟨m, 0, none⟩) hb2
            have hLL : L = L.take k ++ (key, e.2) :: L.drop (k + 1) := by
              have h1 := (List.getElem?_eq_some_iff.1 HK.out)
              have h2 := List.take_append_drop k L
              rw [List.drop_eq_getElem_cons h1.1, h1.2] at h2
              rw [← hkey]
              exact h2.symm
            have hlen2 : k + (L.length - (k + 1)) = (L.take k ++ L.drop (k + 1)).length := by simp; omega
            have hown4 : w2.ownsRow 0 120 2 (.slice a2 (k + (L.length - (k + 1))) c2) (L.take k ++ L.drop (k + 1)).length (rows (L.take k ++ L.drop (k + 1))) := by
              rw [← hlen2, rows_app]
              refine ⟨hown3.1, ?_⟩
              rcases hown3.2 with h2 | ⟨g', cap', cur', e1, _, r⟩
              · exact .inl h2
              · exact .inr ⟨g', cap', cur', e1, Nat.zero_le _, r⟩
            have hset := ref_set (T := Grow S wr) HR.out T2 hm0 ⟨_, hm1''⟩ hl2 hown4 (fun x e => ⟨.inr (hown3.lt x e).1, by have := (hown3.lt x e).1; omega⟩) (fun x hx => hx)
            have HSET := Lib.hid hset
            have HLL := Lib.hid hLL
            clear hset hLL hown4 hlen2 hown3 hgrow2 hm0 hb1 hb2 hnil2 hgrow1 hnil1 hown1 T2
            go_wp2_with fail
            refine bodyPost_ret (results_tmp2 rfl _ _ _) rfl ?_
            exact .inr ⟨_, _, _, HLL.out, HN.out, rfl, HSET.out.1, HSET.out.2⟩

end Go.Proofs.Yteboancapfgdeaa
