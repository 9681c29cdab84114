/- Proved here: the contract of the reference's Join. -/
import Derived.Test.YtmjpnpnmhacknaaRfD
import Derived.Lib.AppendStr
import Derived.Laws.IdiomStrings
import Derived.Laws.BytesArg
namespace Go.Proofs.Ytmjpnpnmhacknaa
open Go.RowKit Go.Proofs.Tp

theorem Try.info5 : (Try.prog.info? 5).map (fun i => (i.zero, i.size, i.bytes)) = some (some (.int .u8 0), 1, 1) := by kernel_rfl

theorem conv_own {w : World} {B : Nat} {v : Value} (bs : List UInt8) (h : w.ownsRow B 5 1 v bs.length (Lib.strCells ⟨bs.toArray⟩)) :
    (convert 43 9 v).run Try.prog w = .ok (.string ⟨bs.toArray⟩) w := by
  have hc := h
  rcases h.2 with ⟨rfl, h0⟩ | ⟨g, cap, cur, rfl, _, _, hn, hm, _, _⟩
  · obtain rfl : bs = [] := List.eq_nil_of_length_eq_zero h0
    exact run_convert_bytes_nil w 43 5 Try.underlying43 Try.underlying5 0 0 9 Try.underlying9
  · refine run_convert_bytes_back w 43 9 5 _ cap bs Try.underlying43 Try.underlying5 Try.underlying9 (fun j hj => ?_)
    exact hc.cells (g := g) rfl j _ (by unfold Lib.strCells; simp [hj])

theorem join_snoc (L : List (List UInt8)) (x : List UInt8) (h : L ≠ []) : Lib.join (L ++ [x]) [47] = Lib.join L [47] ++ 47 :: x := by
  cases L with
  | nil => exact absurd rfl h
  | cons y r => rw [List.cons_append, Lib.join_cons, Lib.join_cons]; simp [Lib.joinTail]

theorem join_take_len (L : List (List UInt8)) (k : Nat) : (Lib.join (L.take k) [47]).length ≤ (Lib.join L [47]).length := by
  cases L with
  | nil => simp
  | cons x r =>
    cases k with
    | zero => simp [Lib.join_nil]
    | succ k =>
      rw [List.take_succ_cons, Lib.join_cons, Lib.join_cons]
      simp only [List.length_append, Lib.joinTail]
      have : ∀ (m : Nat) (r : List (List UInt8)), ((r.take m).map ([47] ++ ·)).flatten.length ≤ (r.map ([47] ++ ·)).flatten.length := by
        intro m
        induction m with
        | zero => intro r; simp
        | succ m ih =>
          intro r
          cases r with
          | nil => simp
          | cons y r => have := ih r; simp only [List.take_succ_cons, List.map_cons, List.flatten_cons, List.length_append] at this ⊢; omega
      have := this k r
      omega

theorem strCells_app (a b : List UInt8) : Lib.strCells ⟨(a ++ b).toArray⟩ = Lib.strCells ⟨a.toArray⟩ ++ Lib.strCells ⟨b.toArray⟩ := by unfold Lib.strCells; simp

set_option maxHeartbeats 2000000 in
set_option maxRecDepth 1000000 in
theorem rfJoin_walk (L : List ByteArray) (b off cap n : Nat) (w : World) (hn : L.length = n) (_hnc : n ≤ cap) (_hm : cap ≤ 9223372036854775807) (hb : b < w.heap.size) (hn1 : n ≤ 1000000001)
    (hA : ∀ i x, L[i]? = some x → w.cell? ⟨b, off + i, none⟩ = some (.string x)) (hsz : (joinT L).size ≤ 1000000000) :
    Calls Try.prog 41 #[.slice (some ⟨b, off, none⟩) n cap] w fun e w' => e = .returned (.string (joinT L)) ∧ Below w.heap.size w w' := by
  obtain ⟨i0, hi, hz0, hz1, hz2⟩ := info_parts Try.info5
  have HA := Lib.hid hA
  have HN := Lib.hid hn
  have HJ := Lib.hid (show joinT L = ⟨(Lib.join (L.map (·.data.toList)) [47]).toArray⟩ from rfl)
  have hjl : (Lib.join (L.map (·.data.toList)) [47]).length ≤ 1000000000 := by rw [← joinT_data, ← size_eq]; exact hsz
  have HL := Lib.hid (fun k => join_take_len (L.map (·.data.toList)) k)
  clear hA hn hsz
  go_enter Try.func41, Try.ntmps41
  go_wp2_with fail
  go_loopg [3, 4] n (fun g v i wr => ∃ (k : Nat) (bs : List UInt8), k + g = n ∧ i = .int .i64 (k : Nat) ∧ Aside (bs = Lib.join ((L.map (·.data.toList)).take k) [47]) ∧ bs.length ≤ 1000000000 ∧
    wr.ownsRow w.heap.size 5 1 v bs.length (Lib.strCells ⟨bs.toArray⟩) ∧ Below w.heap.size w wr)
  case atStart => exact ⟨0, [], by omega, rfl, rfl, by simp, World.ownsRow_nil _ _ _ _, Below.refl _ _⟩
  case round =>
    obtain ⟨k, bs, hkg, rfl, HI, hbl, hown, hbel⟩ := hrel
    have HKG := Lib.hid hkg
    have hsz := hbel.size
    by_cases hkn : k < n
    · have hknI : (k : Int) < (n : Int) := by omega
      obtain ⟨x, hx⟩ : ∃ x, L[k]? = some x := ⟨L[k]'(by rw [HN.out]; exact hkn), List.getElem?_eq_getElem _⟩
      have hcx : wr.cell? ⟨b, off + k, none⟩ = some (.string x) := (hbel.cell (p := ⟨b, off + k, none⟩) hb).trans (HA.out k x hx)
      have htk : (L.map (·.data.toList)).take (k + 1) = (L.map (·.data.toList)).take k ++ [x.data.toList] := by
        rw [List.take_add_one, List.getElem?_map, hx]; rfl
      have hx2 : (⟨x.data.toList.toArray⟩ : ByteArray) = x := rfl
      have hxl := HL.out (k + 1)
      clear hx hkg
      by_cases hk0 : k = 0
      · subst hk0
        have hb0 : bs = [] := by rw [HI.out]; simp [Lib.join_nil]
        subst hb0
        have hjx : Lib.join ((L.map (·.data.toList)).take (0 + 1)) [47] = x.data.toList := by rw [htk]; simp [Lib.join_one]
        rw [hjx] at hxl
        have hxs : x.size ≤ 1000000000 := by rw [size_eq]; omega
        have HX := Lib.hid hjx
        have hcx0 : wr.cell? ⟨b, off, none⟩ = some (.string x) := hcx
        clear hjx htk hxl hcx
        go_wp2_with (at_builtin; (refine Lib.wpList_append_own_string _ rfl (.tmp 16) (.tmp 20) 43 9 rfl w.heap.size 5 i0 Try.underlying43 Try.underlying9 hi hz0 hz1 hz2 _ _ _ rfl hown x rfl ?c1 ?c2 ?c3 ?_))
        case c1 => unfold maxLen; omega
        case c2 => omega
        intro v' w1 hown1 hgrow _
        go_wp2_with fail
        go_roundg (n - 1)
        case measure => have := HKG.out; omega
        case rel =>
          refine ⟨1, x.data.toList, by omega, by go_num, HX.out.symm, by rw [← size_eq]; exact hxs, ?_, hbel.grown hgrow hsz (fun k e => (hown.lt _ e).1)⟩
          rw [← size_eq]
          simpa [Lib.strCells] using hown1
      · have hkI : (0 : Int) < (k : Int) := by omega
        have hne : (L.map (·.data.toList)).take k ≠ [] := by
          rw [Ne, List.take_eq_nil_iff]; rintro (e | e)
          · exact hk0 e
          · have := HN.out; rw [List.map_eq_nil_iff] at e; rw [e] at this; simp at this; omega
        have hjx : Lib.join ((L.map (·.data.toList)).take (k + 1)) [47] = (bs ++ [47]) ++ x.data.toList := by rw [htk, join_snoc _ _ hne, HI.out]; simp
        rw [hjx] at hxl
        have hxs : bs.length + 1 + x.size ≤ 1000000000 := by rw [size_eq]; simp at hxl ⊢; omega
        have HX := Lib.hid hjx
        clear hjx htk hxl hne
        go_wp2_with (first
          | (at_builtin; refine wpList_append_own _ rfl (.tmp 13) (.tmp 14) 43 rfl w.heap.size 5 i0 (.int .u8 0) 1 1 Try.underlying43 hi hz0 hz1 hz2 rfl (by decide) _ _ _ rfl (hown.alloc _) ⟨wr.heap.size, 0, none⟩ 1 1 [.int .u8 47] rfl rfl ?f1 ?f2 ?f3 ?f4 ?f5 ?_))
        case f2 => simp [Value.oneCell']
        case f3 => unfold maxLen; omega
        case f4 => omega
        case f5 => omega
        intro v' w1 hown1 hgrow _
        have h1 := hown.alloc (.cells #[.int .u8 47] 5)
        have hbel1 : Below w.heap.size w w1 := (hbel.alloc hsz _).grown hgrow (by simp; omega) (fun k e => (h1.lt _ e).1)
        have hcx1 : w1.cell? ⟨b, off + k, none⟩ = some (.string x) := (hbel1.cell (p := ⟨b, off + k, none⟩) hb).trans ((hbel.cell (p := ⟨b, off + k, none⟩) hb).symm.trans hcx)
        have hsz1 := hbel1.size
        clear h1 hown hgrow hcx hbel
        go_wp2_with (at_builtin; refine Lib.wpList_append_own_string _ rfl (.tmp 16) (.tmp 20) 43 9 rfl w.heap.size 5 i0 Try.underlying43 Try.underlying9 hi hz0 hz1 hz2 _ _ _ rfl hown1 x rfl ?e1 ?e2 ?e3 ?_)
        case e1 => unfold maxLen; omega
        case e2 => omega
        case e3 => omega
        intro v2 w2 hown2 hgrow2 _
        go_wp2_with fail
        go_roundg (n - (k + 1))
        case measure => have := HKG.out; omega
        case rel =>
          refine ⟨k + 1, (bs ++ [47]) ++ x.data.toList, by omega, by go_num, HX.out.symm, by simp; omega, ?_, hbel1.grown hgrow2 hsz1 (fun k e => (hown1.lt _ e).1)⟩
          have e1 : ((bs ++ [47]) ++ x.data.toList).length = bs.length + 1 + x.size := by simp; omega
          rw [e1, strCells_app, strCells_app, List.append_assoc]
          exact hown2
    · have hknI : ¬ ((k : Int) < (n : Int)) := by omega
      have hcv := conv_own bs hown
      have HE := Lib.hid (show joinT L = ⟨bs.toArray⟩ from by rw [HJ.out, HI.out, List.take_of_length_le (by simp; rw [HN.out]; omega)])
      clear hkg hown
      go_wp2_with fail
      go_ret
      exact ⟨by rw [HE.out]; rfl, hbel⟩

end Go.Proofs.Ytmjpnpnmhacknaa
