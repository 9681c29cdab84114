/- Proved here: of, a thing's number. -/
import Derived.Test.YteboancapfgdeaaProg
import Derived.Test.YteboancapfgdeaaCcCodes
import Derived.Test.YteboancapfgdeaaCcKindsB
import Derived.Deep.DeepCutAuto
import Derived.Lib.Hide
namespace Go.Proofs.Yteboancapfgdeaa
open Go.RowKit Go.Proofs.Cc

theorem infoBool : (Try.prog.info? 4).map (fun i => (i.zero, i.size, i.bytes)) = some (some (.bool false), 1, 1) := by kernel_rfl

theorem codesB_open {w : World} {k : Nat} {S : Nat → Prop} {L : List Bool} (R : CodesAt 4 1 kdB false w k S L) (hL : L ≠ []) :
    ∃ g cap, w.cell? ⟨k, 0, none⟩ = some (.slice (some ⟨g, 0, none⟩) L.length cap) ∧ w.ownsRow 0 4 1 (.slice (some ⟨g, 0, none⟩) L.length cap) L.length (crow kdB L) ∧ (∀ x, (Value.slice (some ⟨g, 0, none⟩) L.length cap).ownBlock = some x → S x ∧ x ≠ k) ∧
      L.length ≤ cap ∧ cap ≤ 9223372036854775807 ∧ ∀ i p, L[i]? = some p → w.cell? ⟨g, i, none⟩ = some (.bool p) := by
  obtain ⟨v, h1, h2, h3⟩ := R.row
  have h4 := h2
  rcases h2.2 with ⟨rfl, h0⟩ | ⟨g, cap, cur, rfl, _, _, hn, hm, _, _⟩
  · exact absurd (List.eq_nil_of_length_eq_zero h0) hL
  · refine ⟨g, cap, h1, h4, h3, hn, hm, fun i p hp => ?_⟩
    have hl := (List.getElem?_eq_some_iff.1 hp).1
    have := crow_get (KK := kdB) (f := fun x => .bool x) (fun _ => rfl) L i p hp
    exact (h4.cellAt i (by omega)).trans this

set_option maxRecDepth 100000 in
set_option maxHeartbeats 1000000 in
theorem ofB_q {w : World} {k : Nat} {S : Nat → Prop} {L : List Bool} (R : CodesAt 4 1 kdB false w k S L) (x : Bool) (hx : x ∈ L) :
    Calls Try.prog 80 #[.pointer (some ⟨k, 0, none⟩), .bool x] w fun ex w' => ex = .returned (.int .i64 (idx L x : Nat)) ∧ w' = w := by
  have hL : L ≠ [] := List.ne_nil_of_mem hx
  have hpos := List.length_pos_iff.2 hL
  obtain ⟨g, cap, hk0, hrow, hv, hn, hm, hcell⟩ := codesB_open R hL
  have hlz : ((L.length : Int) == 0) = false := by rw [beq_eq_false_iff_ne]; omega
  have HCELL := Lib.hid hcell
  have HX := Lib.hid hx
  clear R hrow hv hcell hx
  go_enter Try.func80, Try.ntmps80
  go_wp2_with fail
  go_loopg [6] L.length (fun gg i wr => ∃ j, j + gg = L.length ∧ i = .int .i64 (j : Nat) ∧ wr = w ∧ x ∉ L.take j)
  case atStart => exact ⟨0, by omega, rfl, rfl, by simp⟩
  case round =>
    obtain ⟨j, hjg, rfl, rfl, hno⟩ := hrel
    have HN := Lib.hid hno
    clear hno
    cases gk with
    | zero =>
      obtain rfl : j = L.length := by omega
      have hx : x ∉ L := by have := HN.out; rwa [List.take_length] at this
      exact absurd HX.out hx
    | succ gk =>
      have hjl : j < L.length := by omega
      have he := List.getElem?_eq_getElem hjl
      have hc0 := HCELL.out j _ he
      have HE := Lib.hid he
      generalize L[j] = e at hc0 HE
      clear he
      have i0' : (0 : Int) ≤ (j : Int) := by omega
      have i1' : (j : Int) < (L.length : Int) := by omega
      cases hc : (e == x) with
      | false =>
        go_wp2_with fail
        go_roundg gk
        case measure => omega
        case rel =>
          refine ⟨j + 1, by omega, by go_num, rfl, ?_⟩
          intro hx
          rw [List.take_add_one, HE.out] at hx
          rcases List.mem_append.1 hx with y | y
          · exact HN.out y
          · simp at y
            subst y
            simp at hc
      | true =>
        have hex : e = x := by simpa using hc
        have HEX := Lib.hid hex
        clear hex
        go_wp2_with fail
        repeat (first | rw [Exit.noGoto_ret] | simp only [Exit.inBlock] | simp only [Exit.then])
        go_ret
        exact ⟨ret_int (by rw [idxOf_at HN.out HE.out HEX.out]), rfl⟩

set_option maxRecDepth 100000 in
set_option maxHeartbeats 2000000 in
theorem ofB_any {w : World} {k : Nat} {S : Nat → Prop} {L : List Bool} (R : CodesAt 4 1 kdB false w k S L) (x : Bool) (hlen : L.length ≤ 1000000) :
    Calls Try.prog 80 #[.pointer (some ⟨k, 0, none⟩), .bool x] w fun ex w' => ∃ L', ex = .returned (.int .i64 (idx L' x : Nat)) ∧ CodesAt 4 1 kdB false w' k (Grow S w) L' ∧ x ∈ L' ∧ Turn S w w' ∧ L <+: L' ∧ L'.length ≤ L.length + 2 := by
  obtain ⟨i0, hi, hz0, hz1, hz2⟩ := info_parts infoBool
  by_cases hL : L = []
  · subst hL
    obtain ⟨v, hk00, hown, hv⟩ := R.row
    obtain ⟨a, c, rfl⟩ := owns_shape hown
    have hf := R.live.frozen 0 none
    have HC := Lib.hid R
    have HV := Lib.hid hv
    clear R hv
    go_enter Try.func80, Try.ntmps80
    go_wp2_with (at_builtin; refine wpList_append_own_at _ rfl _ _ 131 rfl 0 4 i0 (.bool false) 1 1 Try.underlying131 hi hz0 hz1 hz2 rfl (by decide) _ _ _ rfl (hown.alloc _) ⟨w.heap.size, 0, none⟩ 1 1 [.bool false] rfl rfl ?c2 ?c3 ?c4 ?c5 ?c6 ?_)
    case c2 => exact cell_one_new _ _ _
    case c3 => simp [Value.oneCell']
    case c4 => unfold maxLen; simp
    case c5 => simp
    case c6 => exact Nat.zero_le _
    intro v1 w1 hown1 hgrow1 _ hob1
    obtain ⟨a1, c1, rfl⟩ := owns_shape hown1
    obtain ⟨hk1, hl1, hcod1, hturn1⟩ := codes_app (x := false) HC.out rfl HV.out hgrow1 (hob1.imp id (fun e => e.trans (by simp))) hk00 hown1 (fun _ => rfl)
    have hf1 := hl1.frozen 0 none
    obtain ⟨w3, hw3⟩ : ∃ w3, w1.setCell ⟨k, 0, none⟩ (.slice a1 1 c1) = w3 := ⟨_, rfl⟩
    rw [hw3] at hcod1 hturn1
    have HCX := Lib.hid hcod1
    have HT1 := Lib.hid hturn1
    clear hcod1 hturn1 hown1 hgrow1 hob1 hown hk00
    obtain ⟨g, cap, hk0, hrow, hv2, hn, hm, hcell⟩ := codesB_open HCX.out (by simp)
    have hf := HCX.out.live.frozen 0 none
    have hml : ([false] : List Bool).length = 1 := rfl
    obtain ⟨M, hM⟩ : ∃ M, ([] : List Bool) ++ [false] = M := ⟨_, rfl⟩
    rw [hM] at hk0 hrow hv2 hn hcell HCX
    have hML : 0 < M.length := by rw [← hM]; simp
    have HM1 := Lib.hid (show M.length ≤ ([] : List Bool).length + 1 from by rw [← hM]; simp)
    have hML' : M.length ≤ 1 := by rw [← hM]; simp
    have HML' := Lib.hid hML'
    clear hML' hml
    have HM := Lib.hid hM
    have HCELL := Lib.hid hcell
    have HRow := Lib.hid hrow
    have HCXV := Lib.hid hv2
    have HG := Lib.hid (show ∀ y, Grow (Grow S w) w3 y → Grow S w y from fun y h => h.elim id (fun z => .inr (Nat.le_trans HT1.out.size z)))
    have HG1 := Lib.hid (show ∀ y, Grow S w y → Grow S w y from fun _ h => h)
    have HTT := Lib.hid (show ∀ w', Turn (Grow S w) w3 w' → Turn S w w' from fun w' h => HT1.out.trans h)
    have HPre := Lib.hid (show ∀ l, ([] : List Bool) <+: M ++ l from fun l => List.nil_prefix)
    have HPre0 := Lib.hid (show ([] : List Bool) <+: M from List.nil_prefix)
    clear hcell hrow hv2 hM
    go_wp2_with fail
    try rw [hw3]
    clear hf1 hl1 hk1 hw3
    go_loopg [6] M.length (fun gg i wr => ∃ j, j + gg = M.length ∧ i = .int .i64 (j : Nat) ∧ wr = w3 ∧ x ∉ M.take j)
    case atStart => exact ⟨0, by omega, rfl, rfl, by simp⟩
    case round =>
      obtain ⟨j, hjg, rfl, rfl, hno⟩ := hrel
      have HN := Lib.hid hno
      clear hno
      cases gk with
      | zero =>
        obtain rfl : j = M.length := by omega
        have hx : x ∉ M := by have := HN.out; rwa [List.take_length] at this
        have HXN := Lib.hid hx
        clear hx
        go_wp2_with (at_builtin; refine wpList_append_own_at _ rfl _ _ 131 rfl 0 4 i0 (.bool false) 1 1 Try.underlying131 hi hz0 hz1 hz2 rfl (by decide) _ _ _ rfl (HRow.out.alloc _) ⟨wr.heap.size, 0, none⟩ 1 1 [.bool x] rfl rfl ?c2 ?c3 ?c4 ?c5 ?c6 ?_)
        case c2 => exact cell_one_new _ _ _
        case c3 => simp [Value.oneCell']
        case c4 => have := HM1.out; (try simp only [List.length_nil] at this); unfold maxLen; omega
        case c5 => have := HM1.out; (try simp only [List.length_nil] at this); omega
        case c6 => exact Nat.zero_le _
        intro v' w2 hown2 hgrow2 _ hob2
        obtain ⟨a2, c2, rfl⟩ := owns_shape hown2
        obtain ⟨hk2, hl2, hcod, hturn⟩ := codes_app (x := x) HCX.out rfl HCXV.out hgrow2 (hob2.imp id (fun e => e.trans (by simp))) hk0 hown2 (fun e => by rw [e] at hML; simp at hML)
        have hf2 := hl2.frozen 0 none
        have HCOD := Lib.hid hcod
        have HTURN := Lib.hid hturn
        clear hcod hturn hown2 hgrow2 hob2
        go_wp2_with fail
        go_ret
        refine ⟨M ++ [x], ret_int (by rw [idxOf_new HXN.out]; try omega), HCOD.out.wider HG.out, by simp, HTT.out _ HTURN.out, HPre.out [x], by have := HM1.out; (try simp only [List.length_nil] at this); simp; (try omega)⟩
      | succ gk =>
        have hjl : j < M.length := by omega
        have he := List.getElem?_eq_getElem hjl
        have hc0 := HCELL.out j _ he
        have HE := Lib.hid he
        generalize M[j] = e at hc0 HE
        clear he
        have i0' : (0 : Int) ≤ (j : Int) := by omega
        have i1' : (j : Int) < (M.length : Int) := by omega
        cases hc : (e == x) with
        | false =>
          go_wp2_with fail
          go_roundg gk
          case measure => omega
          case rel =>
            refine ⟨j + 1, by omega, by go_num, rfl, ?_⟩
            intro hx
            rw [List.take_add_one, HE.out] at hx
            rcases List.mem_append.1 hx with y | y
            · exact HN.out y
            · simp at y
              subst y
              simp at hc
        | true =>
          have hex : e = x := by simpa using hc
          have HEX := Lib.hid hex
          clear hex
          go_wp2_with fail
          repeat (first | rw [Exit.noGoto_ret] | simp only [Exit.inBlock] | simp only [Exit.then])
          go_ret
          exact ⟨M, ret_int (by rw [idxOf_at HN.out HE.out HEX.out]), HCX.out.wider HG1.out, List.mem_of_getElem? (HEX.out ▸ HE.out), HTT.out _ (Turn.refl _ _), HPre0.out, by have := HM1.out; (try simp only [List.length_nil] at this ⊢); omega⟩
  · have hpos := List.length_pos_iff.2 hL
    obtain ⟨g, cap, hk0, hrow, hv, hn, hm, hcell⟩ := codesB_open R hL
    have hlz : ((L.length : Int) == 0) = false := by rw [beq_eq_false_iff_ne]; omega
    have hML := hpos
    have hf := R.live.frozen 0 none
    have HCELL := Lib.hid hcell
    have HRow := Lib.hid hrow
    have HC := Lib.hid R
    have HCV := Lib.hid hv
    have HG := Lib.hid (show ∀ y, Grow S w y → Grow S w y from fun _ h => h)
    have HTT := Lib.hid (show ∀ w', Turn S w w' → Turn S w w' from fun _ h => h)
    have HG1 := Lib.hid (show ∀ y, S y → Grow S w y from fun _ h => .inl h)
    have HPre := Lib.hid (show ∀ l, L <+: L ++ l from fun l => List.prefix_append L l)
    have HPre0 := Lib.hid (List.prefix_refl L)
    have HM1 := Lib.hid (show L.length ≤ L.length + 1 from Nat.le_succ _)
    clear R hrow hv hcell
    go_enter Try.func80, Try.ntmps80
    go_wp2_with fail
    go_loopg [6] L.length (fun gg i wr => ∃ j, j + gg = L.length ∧ i = .int .i64 (j : Nat) ∧ wr = w ∧ x ∉ L.take j)
    case atStart => exact ⟨0, by omega, rfl, rfl, by simp⟩
    case round =>
      obtain ⟨j, hjg, rfl, rfl, hno⟩ := hrel
      have HN := Lib.hid hno
      clear hno
      cases gk with
      | zero =>
        obtain rfl : j = L.length := by omega
        have hx : x ∉ L := by have := HN.out; rwa [List.take_length] at this
        have HXN := Lib.hid hx
        clear hx
        go_wp2_with (at_builtin; refine wpList_append_own_at _ rfl _ _ 131 rfl 0 4 i0 (.bool false) 1 1 Try.underlying131 hi hz0 hz1 hz2 rfl (by decide) _ _ _ rfl (HRow.out.alloc _) ⟨wr.heap.size, 0, none⟩ 1 1 [.bool x] rfl rfl ?c2 ?c3 ?c4 ?c5 ?c6 ?_)
        case c2 => exact cell_one_new _ _ _
        case c3 => simp [Value.oneCell']
        case c4 => have := HM1.out; (try simp only [List.length_nil] at this); unfold maxLen; omega
        case c5 => have := HM1.out; (try simp only [List.length_nil] at this); omega
        case c6 => exact Nat.zero_le _
        intro v' w2 hown2 hgrow2 _ hob2
        obtain ⟨a2, c2, rfl⟩ := owns_shape hown2
        obtain ⟨hk2, hl2, hcod, hturn⟩ := codes_app (x := x) HC.out rfl HCV.out hgrow2 (hob2.imp id (fun e => e.trans (by simp))) hk0 hown2 (fun e => by rw [e] at hML; simp at hML)
        have hf2 := hl2.frozen 0 none
        have HCOD := Lib.hid hcod
        have HTURN := Lib.hid hturn
        clear hcod hturn hown2 hgrow2 hob2
        go_wp2_with fail
        go_ret
        refine ⟨L ++ [x], ret_int (by rw [idxOf_new HXN.out]; try omega), HCOD.out.wider HG.out, by simp, HTT.out _ HTURN.out, HPre.out [x], by have := HM1.out; (try simp only [List.length_nil] at this); simp; (try omega)⟩
      | succ gk =>
        have hjl : j < L.length := by omega
        have he := List.getElem?_eq_getElem hjl
        have hc0 := HCELL.out j _ he
        have HE := Lib.hid he
        generalize L[j] = e at hc0 HE
        clear he
        have i0' : (0 : Int) ≤ (j : Int) := by omega
        have i1' : (j : Int) < (L.length : Int) := by omega
        cases hc : (e == x) with
        | false =>
          go_wp2_with fail
          go_roundg gk
          case measure => omega
          case rel =>
            refine ⟨j + 1, by omega, by go_num, rfl, ?_⟩
            intro hx
            rw [List.take_add_one, HE.out] at hx
            rcases List.mem_append.1 hx with y | y
            · exact HN.out y
            · simp at y
              subst y
              simp at hc
        | true =>
          have hex : e = x := by simpa using hc
          have HEX := Lib.hid hex
          clear hex
          go_wp2_with fail
          repeat (first | rw [Exit.noGoto_ret] | simp only [Exit.inBlock] | simp only [Exit.then])
          go_ret
          exact ⟨L, ret_int (by rw [idxOf_at HN.out HE.out HEX.out]), HC.out.wider HG1.out, List.mem_of_getElem? (HEX.out ▸ HE.out), HTT.out _ (Turn.refl _ _), HPre0.out, by have := HM1.out; (try simp only [List.length_nil] at this ⊢); omega⟩

end Go.Proofs.Yteboancapfgdeaa
