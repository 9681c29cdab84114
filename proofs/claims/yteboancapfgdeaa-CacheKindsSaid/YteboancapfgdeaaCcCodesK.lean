/- Proved here: of, a thing's number: a key of two cells. -/
import Derived.Test.YteboancapfgdeaaProg
import Derived.Test.YteboancapfgdeaaCcCodes
import Derived.Test.YteboancapfgdeaaCcKindsK
import Derived.Test.YteboancapfgdeaaCcBox
import Derived.Test.YteboancapfgdeaaRgNorm
import Derived.Deep.DeepCutAuto
import Derived.Lib.Hide
import Derived.Laws.StructEq
import Derived.BigQuiet
namespace Go.Proofs.Yteboancapfgdeaa
open Go.RowKit Go.Proofs.Cc Go.Proofs.Rg

theorem infoKey : (Try.prog.info? 31).map (fun i => (i.zero, i.size, i.bytes)) = some (some (.agg #[.string ByteArray.empty, .int .i64 0]), 2, 24) := by kernel_rfl

theorem eqlK (a b : KeyV) (w : World) : (binOp .eql 31 (.agg #[.string a.name.1, .int .i64 a.n.1]) (.agg #[.string b.name.1, .int .i64 b.n.1])).run Try.prog w = .ok (.bool (decide (a = b))) w := by
  have u3 := Try.underlying3
  have u9 := Try.underlying9
  rw [run_eql_struct, show (10000 : Nat) = 9999 + 1 from rfl, run_equalIn_agg w 9999 31 _ _ (by kernel_rfl) (by kernel_rfl)]
  simp only [Program.fieldsOf, Try.underlying31]
  go_simp
  by_cases h1 : a.name.1.toList = b.name.1.toList
  · have e1 : a.name = b.name := Str.ext (by rwa [Lib.toList_data, Lib.toList_data] at h1)
    by_cases h2 : a.n.1 = b.n.1
    · have e2 : a.n = b.n := Subtype.ext h2
      have e : a = b := by obtain ⟨an, ai⟩ := a; obtain ⟨bn, bi⟩ := b; simp only at e1 e2; rw [e1, e2]
      simp [e]
    · have e : a ≠ b := fun h => h2 (by rw [h])
      simp [h1, h2, e]
  · have e : a ≠ b := fun h => h1 (by rw [h])
    simp [h1, e]

theorem codesK_open {w : World} {k : Nat} {S : Nat → Prop} {L : List KeyV} (R : CodesAt 31 2 kdK zeroK w k S L) (hL : L ≠ []) :
    ∃ g cap, w.cell? ⟨k, 0, none⟩ = some (.slice (some ⟨g, 0, none⟩) L.length cap) ∧ w.ownsRow 0 31 2 (.slice (some ⟨g, 0, none⟩) L.length cap) L.length (crow kdK L) ∧ (∀ x, (Value.slice (some ⟨g, 0, none⟩) L.length cap).ownBlock = some x → S x ∧ x ≠ k) ∧
      L.length ≤ cap ∧ cap ≤ 9223372036854775807 ∧ ∀ i p, L[i]? = some p → w.cell? ⟨g, i * 2, none⟩ = some (.string p.name.1) ∧ w.cell? ⟨g, i * 2 + 1, none⟩ = some (.int .i64 p.n.1) := by
  obtain ⟨v, h1, h2, h3⟩ := R.row
  have h4 := h2
  rcases h2.2 with ⟨rfl, h0⟩ | ⟨g, cap, cur, rfl, _, _, hn, hm, _, _⟩
  · exact absurd (List.eq_nil_of_length_eq_zero h0) hL
  · refine ⟨g, cap, h1, h4, h3, hn, hm, fun i p hp => ?_⟩
    have hl := (List.getElem?_eq_some_iff.1 hp).1
    have := crow_get2 (KK := kdK) (f := fun x => .string x.name.1) (g := fun x => .int .i64 x.n.1) (fun _ => rfl) L i p hp
    exact ⟨(h4.cellAt (i * 2) (by omega)).trans this.1, (h4.cellAt (i * 2 + 1) (by omega)).trans this.2⟩

theorem of_boxes (w : World) (x : KeyV) {W : World} {t1 t2 : TypeId} {u v : Value} (h : (w.alloc (.cells #[.string x.name.1, .int .i64 x.n.1] t1)).alloc (.cells #[u, v] t2) = W) :
    Below w.heap.size w W ∧ W.cell? ⟨w.heap.size, 0, none⟩ = some (.string x.name.1) ∧ W.cell? ⟨w.heap.size, 1, none⟩ = some (.int .i64 x.n.1) ∧ W.cell? ⟨w.heap.size + 1, 0, none⟩ = some u ∧ W.cell? ⟨w.heap.size + 1, 1, none⟩ = some v ∧ W.heap.size = w.heap.size + 2 := by
  obtain ⟨hbz, hsz, y0, y1⟩ := box2 (w.alloc (.cells #[.string x.name.1, .int .i64 x.n.1] t1)) u v t2 h
  rw [show (w.alloc (.cells #[.string x.name.1, .int .i64 x.n.1] t1)).heap.size = w.heap.size + 1 by simp] at y0 y1 hsz
  obtain ⟨hb1, hs1, x0, x1⟩ := box2 w (.string x.name.1) (.int .i64 x.n.1) t1 rfl
  have hb2 : Below (w.heap.size + 1) (w.alloc (.cells #[.string x.name.1, .int .i64 x.n.1] t1)) W := by rw [← h]; exact (Below.refl _ _).alloc (by simp) _
  exact ⟨hb1.trans (hb2.mono (by omega)), (hb2.cell (show (⟨w.heap.size, 0, none⟩ : Addr).block < _ by simp)).trans x0, (hb2.cell (show (⟨w.heap.size, 1, none⟩ : Addr).block < _ by simp)).trans x1, y0, y1, by rw [hsz]⟩

set_option maxRecDepth 100000 in
set_option maxHeartbeats 1000000 in
theorem ofK_q {w : World} {k : Nat} {S : Nat → Prop} {L : List KeyV} (R0 : CodesAt 31 2 kdK zeroK w k S L) (x : KeyV) (hx : x ∈ L) :
    Calls Try.prog 66 #[.pointer (some ⟨k, 0, none⟩), .agg #[.string x.name.1, .int .i64 x.n.1]] w fun ex w' => ex = .returned (.int .i64 (idx L x : Nat)) ∧ Below w.heap.size w w' := by
  have hL : L ≠ [] := List.ne_nil_of_mem hx
  have hpos := List.length_pos_iff.2 hL
  have hlz : ((L.length : Int) == 0) = false := by rw [beq_eq_false_iff_ne]; omega
  have HR := Lib.hid R0
  have HL := Lib.hid hL
  have HX := Lib.hid hx
  clear R0 hx hL
  go_enter Try.func66, Try.ntmps66
  go_upto_region 2 with fail
  generalize hW : (w.alloc (.cells #[.string x.name.1, .int .i64 x.n.1] 31)).alloc (.cells #[.string ⟨#[]⟩, .int .i64 0] 31) = W
  obtain ⟨hb1, hs1, x0, x1⟩ := box2 w (.string x.name.1) (.int .i64 x.n.1) 31 rfl
  have hb2 : Below (w.heap.size + 1) (w.alloc (.cells #[.string x.name.1, .int .i64 x.n.1] 31)) W := by rw [← hW]; exact (Below.refl _ _).alloc (by simp) _
  replace x0 := (hb2.cell (show (⟨w.heap.size, 0, none⟩ : Addr).block < _ by simp)).trans x0
  replace x1 := (hb2.cell (show (⟨w.heap.size, 1, none⟩ : Addr).block < _ by simp)).trans x1
  have hbw : Below w.heap.size w W := hb1.trans (hb2.mono (by omega))
  have HBW := Lib.hid hbw
  obtain ⟨g, cap, hk0, hrow, hv, hn, hm, hcell⟩ := codesK_open (HR.out.frame (Below.toSame hbw)) HL.out
  have HCELL := Lib.hid hcell
  clear hrow hv hcell hW hb1 hb2 hs1 hbw
  go_wp2_with fail
  go_loopg [6] L.length (fun gg i wr => ∃ j n, j + gg = L.length ∧ i = .int .i64 (j : Nat) ∧ wr = W.drewN n ∧ x ∉ L.take j)
  case atStart => exact ⟨0, 0, by omega, rfl, rfl, by simp⟩
  case round =>
    obtain ⟨j, n, hjg, rfl, rfl, hno⟩ := hrel
    have HN := Lib.hid hno
    clear hno
    cases gk with
    | zero =>
      obtain rfl : j = L.length := by omega
      have hx : x ∉ L := by have := HN.out; rwa [List.take_length] at this
      exact absurd HX.out hx
    | succ gk =>
      have hjl : j < L.length := by omega
      have he := List.getElem?_eq_getElem hjl
      obtain ⟨hc0, hc1⟩ := HCELL.out j _ he
      have HE := Lib.hid he
      generalize L[j] = e at hc0 hc1 HE
      clear he
      have i0' : (0 : Int) ≤ (j : Int) := by omega
      have i1' : (j : Int) < (L.length : Int) := by omega
      have heq := fun u => eqlK e x u
      cases hc : decide (e = x) with
      | false =>
        simp only [hc] at heq
        have HNE := Lib.hid (of_decide_eq_false hc)
        clear hc
        go_wp2_with fail
        go_quiet (fail)
        go_wp2_with fail
        go_roundg gk
        case measure => omega
        case rel =>
          refine ⟨j + 1, _, by omega, by go_num, rfl, ?_⟩
          intro hx
          rw [List.take_add_one, HE.out] at hx
          rcases List.mem_append.1 hx with y | y
          · exact HN.out y
          · simp at y
            exact HNE.out y.symm
      | true =>
        simp only [hc] at heq
        have HEX := Lib.hid (of_decide_eq_true hc)
        clear hc
        go_wp2_with fail
        go_quiet (fail)
        go_wp2_with fail
        repeat (first | rw [Exit.noGoto_ret] | simp only [Exit.inBlock] | simp only [Exit.then])
        go_ret
        exact ⟨ret_int (by rw [idxOf_at HN.out HE.out HEX.out]), by first | exact below_drewN HBW.out | exact below_drewN (below_drewN HBW.out)⟩

set_option maxRecDepth 100000 in
set_option maxHeartbeats 2000000 in
theorem ofK_any {w : World} {k : Nat} {S : Nat → Prop} {L : List KeyV} (R0 : CodesAt 31 2 kdK zeroK w k S L) (x : KeyV) (hlen : L.length ≤ 1000000) :
    Calls Try.prog 66 #[.pointer (some ⟨k, 0, none⟩), .agg #[.string x.name.1, .int .i64 x.n.1]] w fun ex w' => ∃ L', ex = .returned (.int .i64 (idx L' x : Nat)) ∧ CodesAt 31 2 kdK zeroK w' k (Grow S w) L' ∧ x ∈ L' ∧ Turn S w w' ∧ L <+: L' ∧ L'.length ≤ L.length + 2 := by
  obtain ⟨i0, hi, hz0, hz1, hz2⟩ := info_parts infoKey
  by_cases hL : L = []
  · subst hL
    have HR := Lib.hid R0
    clear R0
    go_enter Try.func66, Try.ntmps66
    go_upto_region 2 with fail
    generalize hW : (w.alloc (.cells #[.string x.name.1, .int .i64 x.n.1] 31)).alloc (.cells #[.string ⟨#[]⟩, .int .i64 0] 31) = V
    obtain ⟨hbw, x0, x1, y0, y1, hsW⟩ := of_boxes w x hW
    have HRV := Lib.hid (HR.out.frame (Below.toSame hbw))
    obtain ⟨v0, hkW, hownW, hvV⟩ := HR.out.row
    obtain ⟨a0, c0, rfl⟩ := owns_shape hownW
    have HOB := Lib.hid (show ∀ g, (Value.slice a0 ([] : List KeyV).length c0).ownBlock = some g → g < w.heap.size from fun g e => (hownW.lt g e).2)
    have hkV := (hbw.cell (World.block_lt_of_cell? w _ hkW)).trans hkW
    have hownV := ownsRow_same hownW (Below.toSame hbw (S := fun _ => True)) (fun _ _ => trivial)
    have HV0 := Lib.hid (Turn.of_below (S := S) hbw)
    have HOV := Lib.hid hownV
    have HVV := Lib.hid hvV
    have hkw := HR.out.live.lt
    clear hW hbw hownV hvV HR hkW hownW
    go_wp2_with fail
    have z0 := regr_cell y0
    have z1 := regr_cell y1
    have z2 := regr_cell hkV
    refine wp_region_norm_below [0, 1, 2, 3] [4, 5] [] [6, 7, 8, 9, 10] [7, 8, 9, 10] (by kernel_rfl) (by kernel_rfl) (fun _ _ d _ _ h => by cases d <;> exact h) ?_
    simp only [pick, List.filterMap_cons, List.filterMap_nil, List.getElem?_toArray, List.getElem?_cons_zero, List.getElem?_cons_succ]
    repeat (quiet_step (fail))
    refine wpQuiet_nil ?_
    repeat (quiet_step (fail))
    repeat (with_reducible refine wpQuiet_nil ?_)
    intro V1 hV1
    change wpList _ _ _ _ _ V1
    clear z0 z1 z2
    have hown1 := ownsRow_same HOV.out (Below.toSame hV1 (S := fun _ => True)) (fun _ _ => trivial)
    have HR1 := Lib.hid (HRV.out.frame (Below.toSame hV1))
    have HT1 := Lib.hid (HV0.out.trans (Turn.of_below hV1))
    have hk1 := (hV1.cell (World.block_lt_of_cell? V _ hkV)).trans hkV
    have x01 := (hV1.cell (World.block_lt_of_cell? V _ x0)).trans x0
    have x11 := (hV1.cell (World.block_lt_of_cell? V _ x1)).trans x1
    have hs1 := hV1.size
    clear hV1 hkV y0 y1 x0 x1
    refine wpList_plain rfl (fun K hK => ?_)
    go_simp
    refine hK _ _ ?_
    clear hK K
    refine wpList_append_own_at _ rfl _ _ 123 rfl 0 31 i0 (.agg #[.string ByteArray.empty, .int .i64 0]) 2 24 Try.underlying123 hi hz0 hz1 hz2 rfl (by decide) _ _ _ rfl (hown1.alloc _) ⟨V1.heap.size, 0, none⟩ 1 1 [.string ⟨#[]⟩, .int .i64 0] rfl rfl ?c2 ?c3 ?c4 ?c5 ?c6 ?_
    case c2 => exact cell_newsB _ _ _
    case c3 => simp [Value.oneCell']
    case c4 => unfold maxLen; simp
    case c5 => simp
    case c6 => exact Nat.zero_le _
    intro v' w2 hown2 hgrow2 _ hob2
    obtain ⟨a2, c2, rfl⟩ := owns_shape hown2
    obtain ⟨hk2, hl2, hcod, hturn⟩ := codes_app (x := zeroK) HR1.out rfl HVV.out hgrow2 (hob2.imp id (fun e => e.trans (by simp))) hk1 hown2 (fun _ => rfl)
    have hf2 := hl2.frozen 0 none
    have hkw1 : k < V1.heap.size := World.block_lt_of_cell? V1 _ hk1
    have hne : ∀ g, (Value.slice a0 ([] : List KeyV).length c0).ownBlock = some g → g ≠ w.heap.size := fun g e => by have := HOB.out g e; omega
    have b0 : w2.cell? ⟨w.heap.size, 0, none⟩ = some (.string x.name.1) := hgrow2.cell ((World.cell?_of_block (w := V1) (Below.heap_alloc V1 _ _ (World.block_lt_of_cell? V1 _ x01))).trans x01) (fun e => hne _ e.symm rfl)
    have b1 : w2.cell? ⟨w.heap.size, 1, none⟩ = some (.int .i64 x.n.1) := hgrow2.cell ((World.cell?_of_block (w := V1) (Below.heap_alloc V1 _ _ (World.block_lt_of_cell? V1 _ x11))).trans x11) (fun e => hne _ e.symm rfl)
    have hd : k ≠ w.heap.size := by omega
    have x0 : (w2.setCell ⟨k, 0, none⟩ (.slice a2 1 c2)).cell? ⟨w.heap.size, 0, none⟩ = some (.string x.name.1) := (cell_set_other (.inl hd)).trans b0
    have x1 : (w2.setCell ⟨k, 0, none⟩ (.slice a2 1 c2)).cell? ⟨w.heap.size, 1, none⟩ = some (.int .i64 x.n.1) := (cell_set_other (.inl hd)).trans b1
    obtain ⟨W3, hW3⟩ : ∃ W3, w2.setCell ⟨k, 0, none⟩ (.slice a2 1 c2) = W3 := ⟨_, rfl⟩
    have hcod' : CodesAt 31 2 kdK zeroK W3 k (Grow S w) [zeroK] := by rw [← hW3]; exact hcod.wider (fun y h => h.elim .inl (fun z => .inr (by have := HT1.out.size; omega)))
    rw [hW3] at x0 x1
    have HTW := Lib.hid (show Turn S w W3 by rw [← hW3]; exact HT1.out.trans (hturn.mono (fun y h => .inl h)))
    have HW3 := Lib.hid hW3
    clear hcod hturn hown2 hgrow2 hob2 hown1 hne b0 b1 hW3 x01 x11 hk1
    have HCX := Lib.hid hcod'
    obtain ⟨g, cap, hk0, hrow, hv, hn, hm, hcell⟩ := codesK_open hcod' (by simp)
    obtain ⟨M, hM⟩ : ∃ M, ([zeroK] : List KeyV) = M := ⟨_, rfl⟩
    have HMM := Lib.hid (show M.length ≤ ([] : List KeyV).length + 1 ∧ M.length ≤ 1000001 by rw [← hM]; simp)
    have HM1 := Lib.hid (show M.length ≤ ([] : List KeyV).length + 2 by rw [← hM]; simp)
    have HNE0 := Lib.hid (show ¬ M = [] by rw [← hM]; simp)
    have HML := hM
    rw [hM] at hk0 hrow hv hn hcell HCX
    have hM1 : M.length = 1 := by rw [← hM]; rfl
    have HM' := Lib.hid hM1
    have HCELL := Lib.hid hcell
    have HRow := Lib.hid hrow
    have HCXV := Lib.hid (show ∀ y, (Value.slice (some ⟨g, 0, none⟩) M.length cap).ownBlock = some y → Grow S w y ∧ y ≠ k from hv)
    have HPre := Lib.hid (show ∀ l, ([] : List KeyV) <+: M ++ l from fun l => List.nil_prefix)
    have HPre0 := Lib.hid (show ([] : List KeyV) <+: M from List.nil_prefix)
    clear hM hM1 HML hcod' hrow hv hcell hl2
    go_wp2_with fail
    rw [HW3.out]
    clear HW3 hf2 hk2
    go_loopg [6] M.length (fun gg i wr => ∃ j n, j + gg = M.length ∧ i = .int .i64 (j : Nat) ∧ wr = W3.drewN n ∧ x ∉ M.take j)
    case atStart => exact ⟨0, 0, by omega, rfl, rfl, by simp⟩
    case round =>
      obtain ⟨j, n, hjg, rfl, rfl, hno⟩ := hrel
      have HN := Lib.hid hno
      clear hno
      cases gk with
      | zero =>
        obtain rfl : j = M.length := by omega
        have hx : x ∉ M := by have := HN.out; rwa [List.take_length] at this
        have HXN := Lib.hid hx
        clear hx
        go_wp2_with fail
        generalize hV : W3.drewN n = V
        have HV0 := Lib.hid (show Turn S w V by rw [← hV]; exact HTW.out.drewN)
        have HWV := Lib.hid (show Same (fun _ => True) W3 V by rw [← hV]; exact (fun _ _ _ => rfl))
        have HRV := Lib.hid (show CodesAt 31 2 kdK zeroK V k (Grow S w) M by rw [← hV]; exact HCX.out.frame (fun _ _ _ => rfl))
        have hkV : V.cell? ⟨k, 0, none⟩ = some (.slice (some ⟨g, 0, none⟩) M.length cap) := by rw [← hV]; exact hk0
        have z0 := regr_cell (show V.cell? ⟨w.heap.size, 0, none⟩ = some (.string x.name.1) by rw [← hV]; exact x0)
        have z1 := regr_cell (show V.cell? ⟨w.heap.size, 1, none⟩ = some (.int .i64 x.n.1) by rw [← hV]; exact x1)
        have z2 := regr_cell hkV
        clear hV
        refine wp_region_norm_below [0, 1, 2, 3] [4, 5] [] [6, 7, 8, 9, 10] [7, 8, 9, 10] (by kernel_rfl) (by kernel_rfl) (fun _ _ d _ _ h => by cases d <;> exact h) ?_
        simp only [pick, List.filterMap_cons, List.filterMap_nil, List.getElem?_toArray, List.getElem?_cons_zero, List.getElem?_cons_succ]
        repeat (quiet_step (fail))
        refine wpQuiet_nil ?_
        repeat (quiet_step (fail))
        repeat (with_reducible refine wpQuiet_nil ?_)
        intro V1 hV1
        change wpList _ _ _ _ _ V1
        clear z0 z1 z2
        have hown1 := ownsRow_same (ownsRow_same HRow.out (show Same (fun _ => True) W3 V from HWV.out) (fun _ _ => trivial)) (Below.toSame hV1 (S := fun _ => True)) (fun _ _ => trivial)
        have HR1 := Lib.hid (HRV.out.frame (Below.toSame hV1))
        have HT1 := Lib.hid (HV0.out.trans (Turn.of_below hV1))
        have hk1 := (hV1.cell (World.block_lt_of_cell? V _ hkV)).trans hkV
        clear hV1 hkV
        refine wpList_plain rfl (fun K hK => ?_)
        go_simp
        refine hK _ _ ?_
        clear hK K
        refine wpList_append_own_at _ rfl _ _ 123 rfl 0 31 i0 (.agg #[.string ByteArray.empty, .int .i64 0]) 2 24 Try.underlying123 hi hz0 hz1 hz2 rfl (by decide) _ _ _ rfl (hown1.alloc _) ⟨V1.heap.size, 0, none⟩ 1 1 [.string x.name.1, .int .i64 x.n.1] rfl rfl ?c2 ?c3 ?c4 ?c5 ?c6 ?_
        case c2 => exact cell_newsB _ _ _
        case c3 => simp [Value.oneCell']
        case c4 => have := HMM.out; unfold maxLen; omega
        case c5 => have := HMM.out; omega
        case c6 => exact Nat.zero_le _
        intro v' w2 hown2 hgrow2 _ hob2
        obtain ⟨a2, c2, rfl⟩ := owns_shape hown2
        obtain ⟨hk2, hl2, hcod, hturn⟩ := codes_app (x := x) HR1.out rfl HCXV.out hgrow2 (hob2.imp id (fun e => e.trans (by simp))) hk1 hown2 (fun e => absurd e HNE0.out)
        have hf2 := hl2.frozen 0 none
        have HCOD := Lib.hid hcod
        have HTURN := Lib.hid hturn
        have HG := Lib.hid (show ∀ y, Grow (Grow S w) V1 y → Grow S w y from fun y h => h.elim id (fun z => .inr (Nat.le_trans HT1.out.size z)))
        have HTT := Lib.hid (show ∀ w', Turn (Grow S w) V1 w' → Turn S w w' from fun w' h => HT1.out.trans h)
        clear hcod hturn hown2 hgrow2 hob2 hown1 hk1
        go_wp2_with fail
        go_ret
        exact ⟨_, ret_int (by rw [idxOf_new HXN.out]; try omega), HCOD.out.wider HG.out, by simp, HTT.out _ HTURN.out, HPre.out [x], by have := HMM.out; simp at this ⊢; try omega⟩
      | succ gk =>
        have hjl : j < M.length := by omega
        have he := List.getElem?_eq_getElem hjl
        obtain ⟨hc0, hc1⟩ := HCELL.out j _ he
        have HE := Lib.hid he
        generalize M[j] = e at hc0 hc1 HE
        clear he
        have i0' : (0 : Int) ≤ (j : Int) := by omega
        have i1' : (j : Int) < (M.length : Int) := by omega
        have heq := fun u => eqlK e x u
        cases hc : decide (e = x) with
        | false =>
          simp only [hc] at heq
          have HNE := Lib.hid (of_decide_eq_false hc)
          clear hc
          go_wp2_with fail
          go_quiet (fail)
          go_wp2_with fail
          go_roundg gk
          case measure => omega
          case rel =>
            refine ⟨j + 1, _, by omega, by go_num, rfl, ?_⟩
            intro hx
            rw [List.take_add_one, HE.out] at hx
            rcases List.mem_append.1 hx with y | y
            · exact HN.out y
            · simp at y
              exact HNE.out y.symm
        | true =>
          simp only [hc] at heq
          have HEX := Lib.hid (of_decide_eq_true hc)
          clear hc
          go_wp2_with fail
          go_quiet (fail)
          go_wp2_with fail
          repeat (first | rw [Exit.noGoto_ret] | simp only [Exit.inBlock] | simp only [Exit.then])
          go_ret
          exact ⟨M, ret_int (by rw [idxOf_at HN.out HE.out HEX.out]), HCX.out.frame (fun _ _ _ => rfl), List.mem_of_getElem? (HEX.out ▸ HE.out), HTW.out.drewN.drewN, HPre0.out, HM1.out⟩
  · have hpos := List.length_pos_iff.2 hL
    have hlz : ((L.length : Int) == 0) = false := by rw [beq_eq_false_iff_ne]; omega
    have HR := Lib.hid R0
    have HL := Lib.hid hL
    clear R0 hL
    go_enter Try.func66, Try.ntmps66
    go_upto_region 2 with fail
    generalize hW : (w.alloc (.cells #[.string x.name.1, .int .i64 x.n.1] 31)).alloc (.cells #[.string ⟨#[]⟩, .int .i64 0] 31) = W
    obtain ⟨hbw, x0, x1, y0, y1, hsW⟩ := of_boxes w x hW
    have HBW := Lib.hid hbw
    obtain ⟨g, cap, hk0, hrow, hv, hn, hm, hcell⟩ := codesK_open (HR.out.frame (Below.toSame hbw)) HL.out
    have HCELL := Lib.hid hcell
    have HTW := Lib.hid (Turn.of_below (S := S) hbw)
    have HCX := Lib.hid ((HR.out.frame (Below.toSame hbw)).wider (T := Grow S w) (fun y h => .inl h))
    have HPre := Lib.hid (show ∀ l, L <+: L ++ l from fun l => List.prefix_append L l)
    have HPre0 := Lib.hid (List.prefix_refl L)
    have HM1 := Lib.hid (show L.length ≤ L.length + 2 by omega)
    have HMM := Lib.hid (show L.length ≤ L.length + 1 ∧ L.length ≤ 1000001 by omega)
    have HRow := Lib.hid hrow
    have HCXV := Lib.hid (show ∀ y, (Value.slice (some ⟨g, 0, none⟩) L.length cap).ownBlock = some y → Grow S w y ∧ y ≠ k from fun y h => ⟨.inl (hv y h).1, (hv y h).2⟩)
    have HNE0 := HL
    clear hrow hv hcell hW hbw y0 y1 hsW
    go_wp2_with fail
    generalize W = W3 at *
    go_loopg [6] L.length (fun gg i wr => ∃ j n, j + gg = L.length ∧ i = .int .i64 (j : Nat) ∧ wr = W3.drewN n ∧ x ∉ L.take j)
    case atStart => exact ⟨0, 0, by omega, rfl, rfl, by simp⟩
    case round =>
      obtain ⟨j, n, hjg, rfl, rfl, hno⟩ := hrel
      have HN := Lib.hid hno
      clear hno
      cases gk with
      | zero =>
        obtain rfl : j = L.length := by omega
        have hx : x ∉ L := by have := HN.out; rwa [List.take_length] at this
        have HXN := Lib.hid hx
        clear hx
        go_wp2_with fail
        generalize hV : W3.drewN n = V
        have HV0 := Lib.hid (show Turn S w V by rw [← hV]; exact HTW.out.drewN)
        have HWV := Lib.hid (show Same (fun _ => True) W3 V by rw [← hV]; exact (fun _ _ _ => rfl))
        have HRV := Lib.hid (show CodesAt 31 2 kdK zeroK V k (Grow S w) L by rw [← hV]; exact HCX.out.frame (fun _ _ _ => rfl))
        have hkV : V.cell? ⟨k, 0, none⟩ = some (.slice (some ⟨g, 0, none⟩) L.length cap) := by rw [← hV]; exact hk0
        have z0 := regr_cell (show V.cell? ⟨w.heap.size, 0, none⟩ = some (.string x.name.1) by rw [← hV]; exact x0)
        have z1 := regr_cell (show V.cell? ⟨w.heap.size, 1, none⟩ = some (.int .i64 x.n.1) by rw [← hV]; exact x1)
        have z2 := regr_cell hkV
        clear hV
        refine wp_region_norm_below [0, 1, 2, 3] [4, 5] [] [6, 7, 8, 9, 10] [7, 8, 9, 10] (by kernel_rfl) (by kernel_rfl) (fun _ _ d _ _ h => by cases d <;> exact h) ?_
        simp only [pick, List.filterMap_cons, List.filterMap_nil, List.getElem?_toArray, List.getElem?_cons_zero, List.getElem?_cons_succ]
        repeat (quiet_step (fail))
        refine wpQuiet_nil ?_
        repeat (quiet_step (fail))
        repeat (with_reducible refine wpQuiet_nil ?_)
        intro V1 hV1
        change wpList _ _ _ _ _ V1
        clear z0 z1 z2
        have hown1 := ownsRow_same (ownsRow_same HRow.out (show Same (fun _ => True) W3 V from HWV.out) (fun _ _ => trivial)) (Below.toSame hV1 (S := fun _ => True)) (fun _ _ => trivial)
        have HR1 := Lib.hid (HRV.out.frame (Below.toSame hV1))
        have HT1 := Lib.hid (HV0.out.trans (Turn.of_below hV1))
        have hk1 := (hV1.cell (World.block_lt_of_cell? V _ hkV)).trans hkV
        clear hV1 hkV
        refine wpList_plain rfl (fun K hK => ?_)
        go_simp
        refine hK _ _ ?_
        clear hK K
        refine wpList_append_own_at _ rfl _ _ 123 rfl 0 31 i0 (.agg #[.string ByteArray.empty, .int .i64 0]) 2 24 Try.underlying123 hi hz0 hz1 hz2 rfl (by decide) _ _ _ rfl (hown1.alloc _) ⟨V1.heap.size, 0, none⟩ 1 1 [.string x.name.1, .int .i64 x.n.1] rfl rfl ?c2 ?c3 ?c4 ?c5 ?c6 ?_
        case c2 => exact cell_newsB _ _ _
        case c3 => simp [Value.oneCell']
        case c4 => have := HMM.out; unfold maxLen; omega
        case c5 => have := HMM.out; omega
        case c6 => exact Nat.zero_le _
        intro v' w2 hown2 hgrow2 _ hob2
        obtain ⟨a2, c2, rfl⟩ := owns_shape hown2
        obtain ⟨hk2, hl2, hcod, hturn⟩ := codes_app (x := x) HR1.out rfl HCXV.out hgrow2 (hob2.imp id (fun e => e.trans (by simp))) hk1 hown2 (fun e => absurd e HNE0.out)
        have hf2 := hl2.frozen 0 none
        have HCOD := Lib.hid hcod
        have HTURN := Lib.hid hturn
        have HG := Lib.hid (show ∀ y, Grow (Grow S w) V1 y → Grow S w y from fun y h => h.elim id (fun z => .inr (Nat.le_trans HT1.out.size z)))
        have HTT := Lib.hid (show ∀ w', Turn (Grow S w) V1 w' → Turn S w w' from fun w' h => HT1.out.trans h)
        clear hcod hturn hown2 hgrow2 hob2 hown1 hk1
        go_wp2_with fail
        go_ret
        exact ⟨_, ret_int (by rw [idxOf_new HXN.out]; try omega), HCOD.out.wider HG.out, by simp, HTT.out _ HTURN.out, HPre.out [x], by have := HMM.out; simp at this ⊢; try omega⟩
      | succ gk =>
        have hjl : j < L.length := by omega
        have he := List.getElem?_eq_getElem hjl
        obtain ⟨hc0, hc1⟩ := HCELL.out j _ he
        have HE := Lib.hid he
        generalize L[j] = e at hc0 hc1 HE
        clear he
        have i0' : (0 : Int) ≤ (j : Int) := by omega
        have i1' : (j : Int) < (L.length : Int) := by omega
        have heq := fun u => eqlK e x u
        cases hc : decide (e = x) with
        | false =>
          simp only [hc] at heq
          have HNE := Lib.hid (of_decide_eq_false hc)
          clear hc
          go_wp2_with fail
          go_quiet (fail)
          go_wp2_with fail
          go_roundg gk
          case measure => omega
          case rel =>
            refine ⟨j + 1, _, by omega, by go_num, rfl, ?_⟩
            intro hx
            rw [List.take_add_one, HE.out] at hx
            rcases List.mem_append.1 hx with y | y
            · exact HN.out y
            · simp at y
              exact HNE.out y.symm
        | true =>
          simp only [hc] at heq
          have HEX := Lib.hid (of_decide_eq_true hc)
          clear hc
          go_wp2_with fail
          go_quiet (fail)
          go_wp2_with fail
          repeat (first | rw [Exit.noGoto_ret] | simp only [Exit.inBlock] | simp only [Exit.then])
          go_ret
          exact ⟨L, ret_int (by rw [idxOf_at HN.out HE.out HEX.out]), HCX.out.frame (fun _ _ _ => rfl), List.mem_of_getElem? (HEX.out ▸ HE.out), HTW.out.drewN.drewN, HPre0.out, HM1.out⟩

end Go.Proofs.Yteboancapfgdeaa
