/- Plain: the document's items (levels, is something there, entries) in memory, three cells each; the shape of a tree of them. No code walked. -/
import Derived.Test.YtgnffkahlniehaaGreatRtShapeP
import Derived.Test.YtgnffkahlniehaaGreatTrAll
import Derived.Test.YtgnffkahlniehaaGreatRtSameSh
import Derived.Test.YtgnffkahlniehaaGreatGsGro
import Derived.Test.YtgnffkahlniehaaGreatRtMsgs
import Derived.Lib.AppendZeros
import Derived.RegionTactic
import Derived.Test.YtgnffkahlniehaaGreatRtFindsP
import Derived.Test.YtgnffkahlniehaaGreatRfAll
import Derived.Test.YtgnffkahlniehaaGreatRtOf
import Derived.Laws.Bits64b
import Derived.Test.YtgnffkahlniehaaGreatTpAll
namespace Go.Proofs.Rt
open Go Go.RowKit Go.Proofs.Gs Go.Proofs.Tri

abbrev ItemV := Bool × List (ByteArray × Int)
abbrev ItTree := Tr ByteArray ItemV
abbrev Items := List (List ByteArray × ItemV)
def itCells (e : List ByteArray × ItemV) (r : Value × Value) : List Value := [r.1, .bool e.2.1, r.2]
def itRow : Items → List (Value × Value) → List Value
  | e :: es, r :: rs => itCells e r ++ itRow es rs
  | _, _ => []

theorem itRow_length : ∀ {es : Items} {rs : List (Value × Value)}, rs.length = es.length → (itRow es rs).length = es.length * 3
  | [], rs, h => by cases rs <;> simp [itRow]
  | e :: es, [], h => by simp at h
  | e :: es, r :: rs, h => by
    simp only [itRow, itCells, List.length_append, List.length_cons, List.length_nil]
    rw [itRow_length (by simpa using h)]
    omega
theorem itRow_get : ∀ {es : Items} {rs : List (Value × Value)} {i o : Nat} {e : List ByteArray × ItemV} {r : Value × Value} {u : Value}, es[i]? = some e → rs[i]? = some r → (itCells e r)[o]? = some u → (itRow es rs)[i * 3 + o]? = some u
  | [], rs, i, o, e, r, u, h, _, _ => by simp at h
  | e' :: es, [], i, o, e, r, u, _, h, _ => by simp at h
  | e' :: es, r' :: rs, 0, o, e, r, u, h1, h2, h3 => by
    simp at h1 h2
    subst h1; subst h2
    have ho : o < (itCells e' r').length := (List.getElem?_eq_some_iff.1 h3).1
    rw [Nat.zero_mul, Nat.zero_add, itRow, List.getElem?_append_left ho]
    exact h3
  | e' :: es, r' :: rs, i + 1, o, e, r, u, h1, h2, h3 => by
    have e : (i + 1) * 3 + o = (itCells e' r').length + (i * 3 + o) := by simp [itCells]; omega
    rw [e, itRow, List.getElem?_append_right (by omega), Nat.add_sub_cancel_left]
    exact itRow_get (by simpa using h1) (by simpa using h2) h3
theorem itRow_app : ∀ {es : Items} {rs : List (Value × Value)} {e : List ByteArray × ItemV} {r : Value × Value}, rs.length = es.length → itRow (es ++ [e]) (rs ++ [r]) = itRow es rs ++ itCells e r
  | [], [], e, r, _ => by simp [itRow]
  | [], _ :: _, e, r, h => by simp at h
  | _ :: _, [], e, r, h => by simp at h
  | e' :: es, r' :: rs, e, r, h => by
    simp only [List.cons_append, itRow]
    rw [itRow_app (by simpa using h), List.append_assoc]

/-- A slice of items. -/
def ItemsAt (F : Nat → Prop) (w : World) (v : Value) (es : Items) : Prop :=
  ∃ rs : List (Value × Value), rs.length = es.length ∧ RowF F w 3 v es.length (itRow es rs) ∧ ∀ (i : Nat) (e : List ByteArray × ItemV) (r : Value × Value), es[i]? = some e → rs[i]? = some r → StrsF F w r.1 e.1 ∧ EntsF F w r.2 e.2.2

theorem ItemsAt.keep {F : Nat → Prop} {w w' : World} {v : Value} {es : Items} (h : ItemsAt F w v es) (hs : Same F w w') : ItemsAt F w' v es := by
  obtain ⟨rs, h1, h2, h3⟩ := h
  exact ⟨rs, h1, h2.keep hs, fun i e r e1 e2 => ⟨RowF.keep (h3 i e r e1 e2).1 hs, RowF.keep (h3 i e r e1 e2).2 hs⟩⟩
theorem ItemsAt.mono {F F' : Nat → Prop} {w : World} {v : Value} {es : Items} (h : ItemsAt F w v es) (hF : ∀ b, F b → F' b) : ItemsAt F' w v es := by
  obtain ⟨rs, h1, h2, h3⟩ := h
  exact ⟨rs, h1, h2.mono hF, fun i e r e1 e2 => ⟨RowF.mono (h3 i e r e1 e2).1 hF, RowF.mono (h3 i e r e1 e2).2 hF⟩⟩
theorem items_slice {F : Nat → Prop} {w : World} {v : Value} {es : Items} (h : ItemsAt F w v es) : ∃ a cap, v = .slice a es.length cap ∧ es.length ≤ cap ∧ cap ≤ 9223372036854775807 := by
  obtain ⟨rs, _, ⟨⟨_, a, cap, e, h1, h2, _⟩, _⟩, _⟩ := h
  exact ⟨a, cap, e, h1, h2⟩
theorem items_some {F : Nat → Prop} {w : World} {v : Value} {es : Items} (h : ItemsAt F w v es) (hp : 0 < es.length) : ∃ b off cap, v = .slice (some ⟨b, off, none⟩) es.length cap ∧ F b ∧ b < w.heap.size ∧ es.length ≤ cap ∧ cap ≤ 9223372036854775807 := by
  obtain ⟨rs, _, h2, _⟩ := h
  rcases RowAt.cases h2.1 with ⟨h0, _⟩ | ⟨_, b, off, cap, e, h1, h3, h4, _⟩
  · omega
  · exact ⟨b, off, cap, e, h2.2 b (by rw [e]; rfl), h4, h1, h3⟩
/-- An item of a slice. -/
theorem items_one {F : Nat → Prop} {w : World} {b off cap n : Nat} {es : Items} (h : ItemsAt F w (.slice (some ⟨b, off, none⟩) n cap) es) {i : Nat} {e : List ByteArray × ItemV} (he : es[i]? = some e) :
    ∃ sv ev, w.cell? ⟨b, off + i * 3, none⟩ = some sv ∧ w.cell? ⟨b, off + (i * 3 + 1), none⟩ = some (.bool e.2.1) ∧ w.cell? ⟨b, off + (i * 3 + 2), none⟩ = some ev ∧ StrsF F w sv e.1 ∧ EntsF F w ev e.2.2 := by
  obtain ⟨rs, h1, h2, h3⟩ := h
  have hi := (List.getElem?_eq_some_iff.1 he).1
  obtain ⟨r, hr⟩ : ∃ r, rs[i]? = some r := ⟨_, List.getElem?_eq_getElem (by omega)⟩
  rcases RowAt.cases h2.1 with ⟨h0, _⟩ | ⟨_, b', off', cap', e', _, _, _, hc⟩
  · omega
  · injection e' with e1 e2 e3
    injection e1 with e1
    injection e1 with e1 e4
    subst e1; subst e4
    have g := fun o u (ho : (itCells e r)[o]? = some u) => hc _ u (itRow_get he hr ho)
    exact ⟨r.1, r.2, g 0 _ rfl, g 1 _ rfl, g 2 _ rfl, (h3 i e r he hr).1, (h3 i e r he hr).2⟩
/-- A part of a slice. -/
theorem items_part {F : Nat → Prop} {w : World} {b off cap n : Nat} {es : Items} (h : ItemsAt F w (.slice (some ⟨b, off, none⟩) n cap) es) {i k : Nat} (hk : i + k ≤ es.length) :
    ItemsAt F w (.slice (some ⟨b, off + i * 3, none⟩) k (cap - i)) ((es.drop i).take k) := by
  obtain ⟨rs, h1, h2, h3⟩ := h
  have hF := h2.2
  have hlen : ((es.drop i).take k).length = k := by rw [List.length_take, List.length_drop]; omega
  have hrl : ((rs.drop i).take k).length = k := by rw [List.length_take, List.length_drop]; omega
  have hget : ∀ (j : Nat), j < k → ((es.drop i).take k)[j]? = es[i + j]? ∧ ((rs.drop i).take k)[j]? = rs[i + j]? := fun j hj => by
    rw [List.getElem?_take_of_lt hj, List.getElem?_take_of_lt hj, List.getElem?_drop, List.getElem?_drop]
    exact ⟨rfl, rfl⟩
  refine ⟨(rs.drop i).take k, by omega, ?_, fun j e r g1 g2 => ?_⟩
  · rcases RowAt.cases h2.1 with ⟨h0, _, a, c, e', _⟩ | ⟨hpos, b', off', cap', e', q1, q2, q3, hc⟩
    · injection e' with e1 e2 e3
      subst e3
      refine ⟨⟨by rw [itRow_length (by omega)], _, _, by rw [hlen], by omega, by have := h2.1; obtain ⟨_, a', c', e'', _, hm, _⟩ := this; injection e'' with _ _ e4; subst e4; exact Nat.le_trans (Nat.sub_le _ _) hm, .inl (by omega)⟩, fun x hx => hF x (by simpa [Value.ownBlock] using hx)⟩
    · injection e' with e1 e2 e3
      injection e1 with e1
      injection e1 with e1 e4
      subst e1; subst e4; subst e3
      refine ⟨⟨by rw [itRow_length (by omega)], _, _, by rw [hlen], by omega, by unfold maxLen; omega, .inr ⟨b, _, rfl, q3, fun j u hu => ?_⟩⟩, fun x hx => hF x (by simpa [Value.ownBlock] using hx)⟩
      have hj := (List.getElem?_eq_some_iff.1 hu).1
      rw [itRow_length (by omega), hlen] at hj
      obtain ⟨p, o, ho, rfl⟩ : ∃ p o, o < 3 ∧ j = p * 3 + o := ⟨j / 3, j % 3, Nat.mod_lt _ (by omega), by omega⟩
      have hp : p < k := by omega
      obtain ⟨e, he⟩ : ∃ e, es[i + p]? = some e := ⟨_, List.getElem?_eq_getElem (by omega)⟩
      obtain ⟨r, hr⟩ : ∃ r, rs[i + p]? = some r := ⟨_, List.getElem?_eq_getElem (by omega)⟩
      obtain ⟨v, hv⟩ : ∃ v, (itCells e r)[o]? = some v := ⟨_, List.getElem?_eq_getElem (by simpa [itCells] using ho)⟩
      have hu2 := itRow_get ((hget p hp).1.trans he) ((hget p hp).2.trans hr) hv
      rw [hu] at hu2
      injection hu2 with hu2
      subst hu2
      have := hc _ u (itRow_get he hr hv)
      rw [show off + i * 3 + (p * 3 + o) = off + ((i + p) * 3 + o) by omega]
      exact this
  · have hj := (List.getElem?_eq_some_iff.1 g1).1
    rw [hlen] at hj
    rw [(hget j hj).1] at g1
    rw [(hget j hj).2] at g2
    exact h3 _ e r g1 g2

mutual
def shG : ItTree → Sh
  | .node lv v ks => .node lv ((v.map Prod.fst).getD false) ((v.map Prod.snd).getD []) (shGL ks)
def shGL : List ItTree → List Sh
  | [] => []
  | k :: ks => shG k :: shGL ks
end
theorem shGL_map : ∀ ks : List ItTree, shGL ks = ks.map shG
  | [] => rfl
  | k :: ks => by rw [shGL, List.map_cons, shGL_map ks]
theorem shG_node (lv : List ByteArray) (v : Option ItemV) (ks : List ItTree) : shG (.node lv v ks) = .node lv ((v.map Prod.fst).getD false) ((v.map Prod.snd).getD []) (ks.map shG) := by rw [shG, shGL_map]

/-- A trie's shape is the shape of its items. -/
theorem shG_of : ∀ t : Tree, shG (mapTr (fun _ => (true, [])) t) = shOf t := by
  refine Tr.ind (fun lv v ks ih => ?_)
  rw [mapTr_node, shG_node, shOf_node, List.map_map]
  congr 1
  · cases v <;> rfl
  · cases v <;> rfl
  · exact List.map_congr_left (fun k hk => ih k hk)
/-- How many nodes a shape has. -/
def Sh.count : Sh → Nat
  | .node _ _ _ ks => 1 + countL ks
where countL : List Sh → Nat
  | [] => 0
  | k :: ks => Sh.count k + countL ks
theorem count_of : ∀ t : Tree, (shOf t).count = nodes t := by
  refine Tr.ind (fun lv v ks ih => ?_)
  have hk : Sh.count.countL (ks.map shOf) = nodesL ks := by
    induction ks with
    | nil => rw [List.map_nil, Sh.count.countL, nodesL]
    | cons k ks ihk => rw [List.map_cons, Sh.count.countL, nodesL, ih k (by simp), ihk (fun x hx => ih x (by simp [hx]))]
  rw [shOf_node, Sh.count, hk, nodes, Nat.add_comm]
end Go.Proofs.Rt

/- Proved here: the contract of crierref7.alike. -/
namespace Go.Proofs.YtgnffkahlniehaaGreat
open Go Go.RowKit Go.Proofs.Gs Go.Proofs.Tri Go.Proofs.Rt Go.Proofs.Tp

theorem alike_step {es : Items} {j i : Nat} {e0 e : List ByteArray × ItemV} (h0 : es[0]? = some e0) (h : es[i]? = some e) (hall : ∀ x ∈ es.take i, j < x.1.length ∧ x.1[j]? = e0.1[j]?) (h1 : j < e.1.length) (h2 : e.1[j]? = e0.1[j]?) :
    ∀ x ∈ es.take (i + 1), j < x.1.length ∧ x.1[j]? = e0.1[j]? := by
  intro x hx
  rw [List.take_add_one, h, List.mem_append] at hx
  rcases hx with hx | hx
  · exact hall x hx
  · simp at hx
    subst hx
    exact ⟨h1, h2⟩
theorem alike_true {es : Items} {j : Nat} {e0 : List ByteArray × ItemV} (h0 : es[0]? = some e0) (hall : ∀ x ∈ es, j < x.1.length ∧ x.1[j]? = e0.1[j]?) : alikeB (keys es) j = true := by
  unfold alikeB
  refine List.all_eq_true.2 (fun x hx => ?_)
  obtain ⟨y, hy, rfl⟩ := List.mem_map.1 hx
  obtain ⟨g1, g2⟩ := hall y hy
  cases es with
  | nil => simp at h0
  | cons z es =>
    injection h0 with h0
    subst h0
    simp only [Bool.and_eq_true, decide_eq_true_eq]
    exact ⟨g1, g2⟩
theorem alike_false {es : Items} {j i : Nat} {e0 e : List ByteArray × ItemV} (h0 : es[0]? = some e0) (h : es[i]? = some e) (hn : ¬ (j < e.1.length ∧ e.1[j]? = e0.1[j]?)) : alikeB (keys es) j = false := by
  unfold alikeB
  refine List.all_eq_false.2 ⟨e.1, List.mem_map.2 ⟨e, List.mem_of_getElem? h, rfl⟩, ?_⟩
  cases es with
  | nil => simp at h0
  | cons z es =>
    injection h0 with h0
    subst h0
    simp only [Bool.and_eq_true, decide_eq_true_eq]
    exact hn

/-- A text of a row. -/
theorem strs_at {F : Nat → Prop} {w : World} {v : Value} {L : List ByteArray} (h : StrsF F w v L) : ∃ a c, v = .slice a L.length c ∧ L.length ≤ c ∧ c ≤ 9223372036854775807 ∧ (0 < L.length → ∃ b o, a = some ⟨b, o, none⟩ ∧ ∀ (j : Nat) (x : ByteArray), L[j]? = some x → w.cell? ⟨b, o + j, none⟩ = some (.string x)) := by
  rcases RowAt.cases h.1 with ⟨h0, _, a, c, e, _⟩ | ⟨hp, b, o, c, e, q1, q2, _, hc⟩
  · obtain ⟨⟨_, a', c', e', h1, h2, _⟩, _⟩ := h
    exact ⟨a', c', e', h1, h2, fun hp => by omega⟩
  · exact ⟨_, c, e, q1, q2, fun _ => ⟨b, o, rfl, fun j x hx => hc j _ (by rw [List.getElem?_map, hx]; rfl)⟩⟩

set_option maxHeartbeats 2000000 in
set_option maxRecDepth 100000 in
theorem alike_any {F : Nat → Prop} {w : World} {v : Value} {es : Items} (h : ItemsAt F w v es) (j : Nat) (hj : j ≤ 1000000001) (hlen : es.length ≤ 1000000) (hlv : ∀ e ∈ es, e.1.length ≤ 1000000001) :
    Calls Tryz.prog 99 #[v, .int .i64 (j : Nat)] w fun e w' => e = .returned (.bool (alikeB (keys es) j)) ∧ Below w.heap.size w w' := by
  obtain ⟨a, cap, rfl, hcap, hmax⟩ := items_slice h
  obtain ⟨K, hK⟩ : ∃ K, es.length = K := ⟨_, rfl⟩
  have HK := Lib.hid hK
  have HI := Lib.hid h
  rw [hK] at hcap hlen HI ⊢
  have HLV := Lib.hid hlv
  clear h hK hlv
  go_enter Tryz.func99, Tryz.ntmps99
  go_wp2_with fail
  go_loopg [5] K (fun g i5 wr => ∃ i : Nat, i + g = K ∧ i5 = .int .i64 (i : Nat) ∧ (∀ e0, es[0]? = some e0 → ∀ x ∈ es.take i, j < x.1.length ∧ x.1[j]? = e0.1[j]?) ∧ Below w.heap.size w wr)
  case atStart => exact ⟨0, by omega, rfl, by simp, Below.refl _ _⟩
  case round =>
    obtain ⟨i, hig, rfl, hall, hb⟩ := hrel
    have HALL := Lib.hid hall
    have HB := Lib.hid hb
    clear hall hb
    cases gk with
    | zero =>
      obtain rfl : i = K := by omega
      have hd : decide ((i : Int) < (i : Int)) = false := decide_eq_false (by omega)
      have hres : alikeB (keys es) j = true := by
        cases he : es[0]? with
        | none =>
          have := List.getElem?_eq_none_iff.1 he
          have : es = [] := List.eq_nil_of_length_eq_zero (by omega)
          rw [this]; rfl
        | some e0 =>
          refine alike_true he (fun x hx => HALL.out e0 he x ?_)
          rw [List.take_of_length_le (by have := HK.out; omega)]
          exact hx
      have HRES := Lib.hid hres
      clear hres
      go_wp2_with fail
      go_ret
      exact ⟨by rw [HRES.out]; rfl, HB.out⟩
    | succ gk =>
      have hiK : i < K := by omega
      have hd : decide ((i : Int) < (K : Int)) = true := decide_eq_true (by omega)
      have hq1 : (0 : Int) ≤ (i : Int) := by omega
      have hq2 : (i : Int) < (K : Int) := by omega
      have hq3 : (0 : Int) < (K : Int) := by omega
      obtain ⟨e, he⟩ : ∃ e, es[i]? = some e := ⟨_, List.getElem?_eq_getElem (show i < es.length by have := HK.out; omega)⟩
      obtain ⟨e0, he0⟩ : ∃ e0, es[0]? = some e0 := ⟨_, List.getElem?_eq_getElem (show 0 < es.length by have := HK.out; omega)⟩
      obtain ⟨b, o, c', hsl, _, _, _, _⟩ := items_some (HK.out ▸ HI.out) (by have := HK.out; omega)
      injection hsl with ha _ hc
      subst ha; subst hc
      have hI := HI.out.keep (Same.below HB.out)
      obtain ⟨sv, ev, p0, _, _, hs, _⟩ := items_one hI he
      obtain ⟨sv0, ev0, p0', _, _, hs0, _⟩ := items_one hI he0
      obtain ⟨a1, c1, rfl, h11, h12, hc1⟩ := strs_at hs
      obtain ⟨a0, c0, rfl, h01, h02, hc0⟩ := strs_at hs0
      rw [show o + 0 * 3 = o by omega] at p0'
      have hl1 := HLV.out e (List.mem_of_getElem? he)
      have hl0 := HLV.out e0 (List.mem_of_getElem? he0)
      obtain ⟨n1, hn1⟩ : ∃ n, e.1.length = n := ⟨_, rfl⟩
      obtain ⟨n0, hn0⟩ : ∃ n, e0.1.length = n := ⟨_, rfl⟩
      have HE := Lib.hid he
      have HE0 := Lib.hid he0
      have HN1 := Lib.hid hn1
      have HN0 := Lib.hid hn0
      rw [hn1] at p0 h11 hl1 hc1
      rw [hn0] at p0' h01 hl0 hc0
      clear hI hs hs0 he he0 hn1 hn0
      by_cases hjn : n1 ≤ j
      · have hle : decide ((n1 : Int) ≤ (j : Int)) = true := decide_eq_true (by omega)
        have hres := alike_false (j := j) HE0.out HE.out (fun ⟨x, _⟩ => by have := HN1.out; omega)
        have HRES := Lib.hid hres
        clear hc1 hc0 hres
        go_wp2_with fail
        go_quiet (fail)
        have hx := HB.out.trans ((below_drew wr nq).mono HB.out.size)
        have HX := Lib.hid hx
        clear hx
        generalize wr.drewN nq = V at HX ⊢
        go_wp2_with fail
        go_ret
        exact ⟨by rw [HRES.out]; rfl, HX.out⟩
      · have hle : decide ((n1 : Int) ≤ (j : Int)) = false := decide_eq_false (by omega)
        have hj1 : (0 : Int) ≤ (j : Int) := by omega
        have hj2 : (j : Int) < (n1 : Int) := by omega
        have hj0 : j < n0 := by
          by_cases hi0 : i = 0
          · subst hi0
            have e1 : e = e0 := Option.some.inj (HE.out.symm.trans HE0.out)
            have := HN1.out; have := HN0.out
            subst e1
            omega
          · have := (HALL.out e0 HE0.out e0 (by
              refine List.mem_iff_getElem?.2 ⟨0, ?_⟩
              rw [List.getElem?_take_of_lt (by omega)]
              exact HE0.out)).1
            have := HN0.out
            omega
        have hj3 : (j : Int) < (n0 : Int) := by omega
        obtain ⟨s1, g1⟩ : ∃ s, e.1[j]? = some s := ⟨_, List.getElem?_eq_getElem (show j < e.1.length by have := HN1.out; omega)⟩
        obtain ⟨s0, g0⟩ : ∃ s, e0.1[j]? = some s := ⟨_, List.getElem?_eq_getElem (show j < e0.1.length by have := HN0.out; omega)⟩
        obtain ⟨b1, o1, rfl, hcc1⟩ := hc1 (by omega)
        obtain ⟨b0, o0, rfl, hcc0⟩ := hc0 (by omega)
        have t1 := hcc1 j s1 g1
        have t0 := hcc0 j s0 g0
        clear hcc1 hcc0
        by_cases hss : s1 = s0
        · have hne2 : (s1.toList != s0.toList) = false := by simp [hss]
          have hall' := fun e1 (h1 : es[0]? = some e1) => alike_step h1 HE.out (HALL.out e1 h1) (by have := HN1.out; omega) (by
            have e2 : e1 = e0 := Option.some.inj (h1.symm.trans HE0.out)
            rw [e2, g1, g0, hss])
          have HA := Lib.hid hall'
          clear hall' g1 g0
          subst hss
          go_wp2_with fail
          go_quiet (fail)
          have hx := HB.out.trans ((below_drew wr nq).mono HB.out.size)
          have HX := Lib.hid hx
          clear hx
          generalize wr.drewN nq = V at HX ⊢
          go_wp2_with fail
          go_roundg gk
          case measure => omega
          case rel => exact ⟨i + 1, by omega, by go_num, HA.out, HX.out⟩
        · have hne2 : (s1.toList != s0.toList) = true := by
            rw [bne_iff_ne]
            exact fun e => hss (ba_ext (by rwa [Lib.toList_data, Lib.toList_data] at e))
          have hne3 : (s1.toList == s0.toList) = false := by
            rw [beq_eq_false_iff_ne]
            exact fun e => hss (ba_ext (by rwa [Lib.toList_data, Lib.toList_data] at e))
          have hres := alike_false (j := j) HE0.out HE.out (fun ⟨_, y⟩ => hss (by rw [g1, g0] at y; injection y))
          have HRES := Lib.hid hres
          clear hres g1 g0
          go_wp2_with fail
          go_quiet (fail)
          have hx := HB.out.trans ((below_drew wr nq).mono HB.out.size)
          have HX := Lib.hid hx
          clear hx
          generalize wr.drewN nq = V at HX ⊢
          go_wp2_with fail
          go_ret
          exact ⟨by rw [HRES.out]; rfl, HX.out⟩
end Go.Proofs.YtgnffkahlniehaaGreat

/- Plain: rows of messages, of items, as rows that grow. No code walked. -/
namespace Go.Proofs.YtgnffkahlniehaaGreat
open Go Go.RowKit Go.Proofs.Gs Go.Proofs.Tri Go.Proofs.Rt Go.Proofs.Tp

def ElMsg (F : Nat → Prop) (w : World) (cs : List Value) (m : MsgV) : Prop := ∃ pv, cs = msgCells m pv ∧ RowF F w 1 pv m.pay.length (payCells m.pay)
def ElItem (F : Nat → Prop) (w : World) (cs : List Value) (e : List ByteArray × ItemV) : Prop := ∃ r, cs = itCells e r ∧ StrsF F w r.1 e.1 ∧ EntsF F w r.2 e.2.2

theorem rowF_one {F : Nat → Prop} {w : World} {k n : Nat} {v : Value} {xs : List Value} (h : RowF F w k v n xs) : v.oneCell' = true := by
  obtain ⟨⟨_, a, c, rfl, _⟩, _⟩ := h
  rfl
theorem eltMsg : Elt 4 ElMsg where
  len := by rintro F w cs a ⟨pv, rfl, _⟩; rfl
  one := by
    rintro F w cs a ⟨pv, rfl, h⟩ u hu
    simp [msgCells] at hu
    rcases hu with rfl | rfl | rfl | rfl
    · rfl
    · exact rowF_one h
    · rfl
    · rfl
  keep := by rintro F w w' cs a ⟨pv, e, h⟩ hs; exact ⟨pv, e, h.keep hs⟩
  mono := by rintro F F' w cs a ⟨pv, e, h⟩ hs; exact ⟨pv, e, h.mono hs⟩
theorem eltItem : Elt 3 ElItem where
  len := by rintro F w cs a ⟨r, rfl, _⟩; rfl
  one := by
    rintro F w cs a ⟨r, rfl, h, h2⟩ u hu
    simp [itCells] at hu
    rcases hu with rfl | rfl | rfl
    · exact rowF_one h
    · rfl
    · exact rowF_one h2
  keep := by rintro F w w' cs a ⟨r, e, h, h2⟩ hs; exact ⟨r, e, RowF.keep h hs, RowF.keep h2 hs⟩
  mono := by rintro F F' w cs a ⟨r, e, h, h2⟩ hs; exact ⟨r, e, RowF.mono h hs, RowF.mono h2 hs⟩

theorem els_msgs {F : Nat → Prop} {w : World} : ∀ {ms : List MsgV} {css : List (List Value)}, Els ElMsg F w css ms → ∃ pvs : List Value, pvs.length = ms.length ∧ css.flatten = msgRow ms pvs ∧ ∀ (i : Nat) (m : MsgV) (pv : Value), ms[i]? = some m → pvs[i]? = some pv → RowF F w 1 pv m.pay.length (payCells m.pay)
  | [], css, h => ⟨[], rfl, by have := h.len; rw [List.eq_nil_of_length_eq_zero (l := css) (by simpa using this)]; rfl, fun i m pv h1 _ => by simp at h1⟩
  | m :: ms, css, h => by
    obtain ⟨cs, rest, rfl, ⟨pv, rfl, hp⟩, hr⟩ := h.uncons
    obtain ⟨pvs, e1, e2, e3⟩ := els_msgs hr
    refine ⟨pv :: pvs, by simp [e1], by rw [List.flatten_cons, e2]; rfl, fun i m' pv' h1 h2 => ?_⟩
    cases i with
    | zero => injection h1 with h1; injection h2 with h2; subst h1; subst h2; exact hp
    | succ i => exact e3 i m' pv' (by simpa using h1) (by simpa using h2)
theorem msgs_els {F : Nat → Prop} {w : World} : ∀ {ms : List MsgV} {pvs : List Value}, pvs.length = ms.length → (∀ (i : Nat) (m : MsgV) (pv : Value), ms[i]? = some m → pvs[i]? = some pv → RowF F w 1 pv m.pay.length (payCells m.pay)) → ∃ css, Els ElMsg F w css ms ∧ css.flatten = msgRow ms pvs
  | [], [], _, _ => ⟨[], Els.nil, rfl⟩
  | [], _ :: _, h, _ => by simp at h
  | _ :: _, [], h, _ => by simp at h
  | m :: ms, pv :: pvs, h, h2 => by
    obtain ⟨css, e1, e2⟩ := msgs_els (ms := ms) (pvs := pvs) (by simpa using h) (fun i m' pv' g1 g2 => h2 (i + 1) m' pv' (by simpa using g1) (by simpa using g2))
    exact ⟨msgCells m pv :: css, Els.cons ⟨pv, rfl, h2 0 m pv rfl rfl⟩ e1, by rw [List.flatten_cons, e2]; rfl⟩

theorem MsgsAt.reads {F : Nat → Prop} {w : World} {v : Value} {ms : List MsgV} (h : MsgsAt F w v ms) : Reads 4 ElMsg F w v ms := by
  obtain ⟨pvs, h1, h2, h3⟩ := h
  obtain ⟨css, e1, e2⟩ := msgs_els h1 h3
  exact ⟨css, e1, by rw [e2]; exact h2.1⟩
theorem reads_msgs {F : Nat → Prop} {w : World} {v : Value} {ms : List MsgV} (h : Reads 4 ElMsg F w v ms) (hF : ∀ b, v.ownBlock = some b → F b) : MsgsAt F w v ms := by
  obtain ⟨css, e1, e2⟩ := h
  obtain ⟨pvs, h1, h2, h3⟩ := els_msgs e1
  exact ⟨pvs, h1, ⟨by rw [← h2]; exact e2, hF⟩, h3⟩
theorem MsgVal.el {F : Nat → Prop} {w : World} {v : Value} {m : MsgV} (h : MsgVal F w v m) : ∃ pv, v = .agg #[.string m.topic, pv, .int .i64 m.qos, .bool m.ret] ∧ ElMsg F w [.string m.topic, pv, .int .i64 m.qos, .bool m.ret] m := by
  obtain ⟨pv, e, h⟩ := h
  exact ⟨pv, e, pv, rfl, h⟩

theorem els_items {F : Nat → Prop} {w : World} : ∀ {es : Items} {css : List (List Value)}, Els ElItem F w css es → ∃ rs : List (Value × Value), rs.length = es.length ∧ css.flatten = itRow es rs ∧ ∀ (i : Nat) (e : List ByteArray × ItemV) (r : Value × Value), es[i]? = some e → rs[i]? = some r → StrsF F w r.1 e.1 ∧ EntsF F w r.2 e.2.2
  | [], css, h => ⟨[], rfl, by have := h.len; rw [List.eq_nil_of_length_eq_zero (l := css) (by simpa using this)]; rfl, fun i m pv h1 _ => by simp at h1⟩
  | m :: ms, css, h => by
    obtain ⟨cs, rest, rfl, ⟨pv, rfl, hp⟩, hr⟩ := h.uncons
    obtain ⟨pvs, e1, e2, e3⟩ := els_items hr
    refine ⟨pv :: pvs, by simp [e1], by rw [List.flatten_cons, e2]; rfl, fun i m' pv' h1 h2 => ?_⟩
    cases i with
    | zero => injection h1 with h1; injection h2 with h2; subst h1; subst h2; exact hp
    | succ i => exact e3 i m' pv' (by simpa using h1) (by simpa using h2)
theorem reads_items {F : Nat → Prop} {w : World} {v : Value} {es : Items} (h : Reads 3 ElItem F w v es) (hF : ∀ b, v.ownBlock = some b → F b) : ItemsAt F w v es := by
  obtain ⟨css, e1, e2⟩ := h
  obtain ⟨rs, h1, h2, h3⟩ := els_items e1
  exact ⟨rs, h1, ⟨by rw [← h2]; exact e2, hF⟩, h3⟩
theorem items_els {F : Nat → Prop} {w : World} : ∀ {es : Items} {rs : List (Value × Value)}, rs.length = es.length → (∀ (i : Nat) (e : List ByteArray × ItemV) (r : Value × Value), es[i]? = some e → rs[i]? = some r → StrsF F w r.1 e.1 ∧ EntsF F w r.2 e.2.2) → ∃ css, Els ElItem F w css es ∧ css.flatten = itRow es rs
  | [], [], _, _ => ⟨[], Els.nil, rfl⟩
  | [], _ :: _, h, _ => by simp at h
  | _ :: _, [], h, _ => by simp at h
  | e :: es, r :: rs, h, h2 => by
    obtain ⟨css, e1, e2⟩ := items_els (es := es) (rs := rs) (by simpa using h) (fun i m' pv' g1 g2 => h2 (i + 1) m' pv' (by simpa using g1) (by simpa using g2))
    have h0 := h2 0 e r rfl rfl
    exact ⟨itCells e r :: css, Els.cons ⟨r, rfl, h0.1, h0.2⟩ e1, by rw [List.flatten_cons, e2]; rfl⟩
theorem _root_.Go.Proofs.Rt.ItemsAt.reads {F : Nat → Prop} {w : World} {v : Value} {es : Items} (h : ItemsAt F w v es) : Reads 3 ElItem F w v es := by
  obtain ⟨rs, h1, h2, h3⟩ := h
  obtain ⟨css, e1, e2⟩ := items_els h1 h3
  exact ⟨css, e1, by rw [e2]; exact h2.1⟩
theorem _root_.Go.Proofs.Rt.ItemsAt.own {F : Nat → Prop} {w : World} {v : Value} {es : Items} (h : ItemsAt F w v es) : ∀ b, v.ownBlock = some b → F b := by
  obtain ⟨rs, h1, h2, h3⟩ := h
  exact h2.2
end Go.Proofs.YtgnffkahlniehaaGreat

/- Plain: rows of shapes that grow; append by what it makes, at a step of a region. No code walked. -/
namespace Go.Proofs.Rt
open Go Go.RowKit Go.Proofs.Gs Go.Proofs.Tri

def ElSh (F : Nat → Prop) (w : World) (cs : List Value) (k : Sh) : Prop := ∃ r, cs = shCell r k ∧ ShAt F w r k
theorem eltSh : Elt 4 ElSh where
  len := by rintro F w cs a ⟨r, rfl, _⟩; rfl
  one := by
    rintro F w cs a ⟨r, rfl, h⟩ u hu
    obtain ⟨a1, n1, c1, a2, n2, c2, a3, n3, c3, rfl⟩ := h.slices
    simp [shCell] at hu
    rcases hu with rfl | rfl | rfl | rfl <;> rfl
  keep := by rintro F w w' cs a ⟨r, e, h⟩ hs; exact ⟨r, e, h.keep hs⟩
  mono := by rintro F F' w cs a ⟨r, e, h⟩ hs; exact ⟨r, e, h.mono hs⟩
theorem els_shs {F : Nat → Prop} {w : World} : ∀ {ks : List Sh} {css : List (List Value)}, Els ElSh F w css ks → ∃ rs : List Sl3, rs.length = ks.length ∧ css.flatten = shCells rs ks ∧ ∀ (i : Nat) (r : Sl3) (k : Sh), rs[i]? = some r → ks[i]? = some k → ShAt F w r k
  | [], css, h => ⟨[], rfl, by have := h.len; rw [List.eq_nil_of_length_eq_zero (l := css) (by simpa using this)]; rfl, fun i m pv h1 _ => by simp at h1⟩
  | m :: ms, css, h => by
    obtain ⟨cs, rest, rfl, ⟨pv, rfl, hp⟩, hr⟩ := h.uncons
    obtain ⟨pvs, e1, e2, e3⟩ := els_shs hr
    refine ⟨pv :: pvs, by simp [e1], by rw [List.flatten_cons, e2]; rfl, fun i m' pv' h1 h2 => ?_⟩
    cases i with
    | zero => injection h1 with h1; injection h2 with h2; subst h1; subst h2; exact hp
    | succ i => exact e3 i m' pv' (by simpa using h1) (by simpa using h2)
/-- A shape out of its parts. -/
theorem sh_make {F : Nat → Prop} {w : World} {sv ev kv : Value} {lv : List ByteArray} {b : Bool} {es : List (ByteArray × Int)} {ks : List Sh} (hs : StrsF F w sv lv) (he : EntsF F w ev es) (hk : Reads 4 ElSh F w kv ks) (hF : ∀ b, kv.ownBlock = some b → F b) : ShAt F w (sv, ev, kv) (.node lv b es ks) := by
  obtain ⟨css, e1, e2⟩ := hk
  obtain ⟨rs, h1, h2, h3⟩ := els_shs e1
  exact .mk lv b es ks sv ev kv rs hs he h1 ⟨by rw [h1, ← h2]; exact e2, hF⟩ h3
end Go.Proofs.Rt
namespace Go
theorem step_append_run {P : Program} (w : World) {ops : Array Oper} {o : Oper} {a : Act} {K : Act → World → Prop} {Q : Exit → Act → World → Prop} {E : Prop} (hgd : o.guard = none) (s x : Operand) (t tn : TypeId)
    (ho : o.op = .call { callee := .builtin .append, args := #[s, x], argTypes := #[t, tn] }) (vs vx : Value) (hs : a.eval s = vs) (hx : a.eval x = vx)
    (v' : Value) (w' : World) (hr : ∀ ty, (Builtin.append_ #[t, tn] ty #[vs, vx]).run P w = .ok v' w') (h : K (a.put o.dst v') w') :
    if Region.wanted o (yielded ops a.tmps) = true then Oper.wp P o a w K Q else E := by
  have hw : Region.wanted o (yielded ops a.tmps) = true := by simp [Region.wanted, hgd]
  rw [if_pos hw]
  exact Lib.wp_append_run w s x t tn ho vs vx hs hx v' w' (hr _) h
end Go

/- Proved here: crierref7.below of a tree's items, out of Stands of what is below. -/
namespace Go.Proofs.YtgnffkahlniehaaGreat
open Go Go.RowKit Go.Proofs.Gs Go.Proofs.Tri Go.Proofs.Rt Go.Proofs.Tp

/-- What Stands answers, of a tree's items. -/
def StandsSpec (t : ItTree) : Prop := ∀ (F : Nat → Prop) (w : World) (ev l : Value), StrsF F w ev t.lv → ItemsAt F w l (body t) → (∀ b, F b → b < w.heap.size) →
  Calls Tryz.prog 74 #[ev, l] w fun e w' => ∃ ev2 kv, e = .returned (.agg #[ev, .bool (shG t).here, ev2, kv]) ∧ ShAt (Since F w w') w' (ev, ev2, kv) (shG t) ∧ Below w.heap.size w w'

theorem infoItem : (Tryz.prog.info? 113).map (fun i => (i.zero, i.size, i.bytes)) = some (some (.agg #[.slice none 0 0, .bool false, .slice none 0 0]), 3, 56) := by kernel_rfl
theorem infoStr : (Tryz.prog.info? 9).map (fun i => (i.zero, i.size, i.bytes)) = some (some (.string ⟨#[]⟩), 1, 16) := by kernel_rfl

/-- One more item, behind a row that grows. -/
theorem items_more {X : Nat → Prop} {w w3 : World} {Z : Nat} {v : Value} {xs : Items} {e : List ByteArray × ItemV} {sv ev : Value} (hX : ∀ b, X b → b < Z) (hZ : Z ≤ w.heap.size) (h : Gro Z 113 3 ElItem (Out X Z w v) w v xs) (hb : Below w.heap.size w w3)
    (hs : StrsF (Out X Z w3 v) w3 sv e.1) (he : EntsF (Out X Z w3 v) w3 ev e.2.2) (hl : xs.length ≤ 2000000) :
    ∃ v' w', (∀ ty, (Builtin.append_ #[111, 111] ty #[v, .slice (some ⟨w3.heap.size, 0, none⟩) 1 1]).run Tryz.prog (w3.alloc (.cells #[sv, .bool e.2.1, ev] 113)) = .ok v' w') ∧ Gro Z 113 3 ElItem (Out X Z w' v') w' v' (xs ++ [e]) ∧ Below Z w w' := by
  obtain ⟨i0, hi, hz0, hz1, hz2⟩ := info_parts infoItem
  obtain ⟨v', w', h1, h2, h3, _⟩ := gro_one eltItem (P := Tryz.prog) (t := 111) i0 _ 56 Tryz.underlying111 hi hz0 hz1 hz2 rfl (by decide) hX hZ h hb (a := e) (cs := [sv, .bool e.2.1, ev]) ⟨(sv, ev), rfl, hs, he⟩ (by unfold maxLen; omega) (by omega)
  exact ⟨v', w', h1, h2, h3⟩
/-- A row of texts, appended to nil. -/
theorem strs_nil {F : Nat → Prop} {w : World} {v2 : Value} {L : List ByteArray} (h2 : StrsF F w v2 L) (hl : L.length ≤ 1000000001) :
    ∃ v' w', (∀ ty, (Builtin.append_ #[31, 31] ty #[.slice none 0 0, v2]).run Tryz.prog w = .ok v' w') ∧ StrsF (Fresh w w') w' v' L ∧ Below w.heap.size w w' := by
  obtain ⟨i0, hi, hz0, hz1, hz2⟩ := info_parts infoStr
  obtain ⟨v', w', h1, h3, h4⟩ := gro_many eltStr (P := Tryz.prog) (t := 31) (X := fun _ => False) (Z := w.heap.size) (xs := []) (bs := L) i0 _ 16 Tryz.underlying31 hi hz0 hz1 hz2 rfl (by decide) (fun _ h => h.elim) (Nat.le_refl _) (Gro.start eltStr (fun _ h => h.elim)) (strs_reads h2) (by rw [List.length_nil]; unfold maxLen; omega) (by rw [List.length_nil]; omega)
  exact ⟨v', w', h1, reads_strs (h3.reads eltStr (F' := fun _ => True) (fun _ _ => trivial)) (fun b e => h3.bound e), h4⟩

set_option maxRecDepth 100000 in
theorem cut_strs (W : World) (a : Option Addr) (n cap i : Nat) (h : (i : Int) ≤ (n : Int)) : (Instr.slice 31 (.slice a n cap) (some (.int .i64 (i : Nat))) none none).run Tryz.prog W = .ok (.slice (if cap = i then a else a.map (·.add (i * 1))) (n - i) (cap - i)) W := by
  have h0 : (0 : Int) ≤ (i : Int) := by omega
  go_simp

/-- The levels behind some. -/
theorem strs_behind {F : Nat → Prop} {w : World} {a : Option Addr} {n c : Nat} {p r : List ByteArray} (h : StrsF F w (.slice a n c) (p ++ r)) (hn : n = (p ++ r).length) : StrsF F w (.slice (if c = p.length then a else a.map (·.add (p.length * 1))) (n - p.length) (c - p.length)) r := by
  have h0 := (strs_reads (G := fun _ => True) h).cut eltStr (by decide) (i := p.length) (m := n - p.length) (by rw [hn, List.length_append]; omega)
  rw [List.drop_append_of_le_length (Nat.le_refl _), List.drop_length, List.nil_append, List.take_of_length_le (by rw [hn, List.length_append]; omega)] at h0
  exact reads_strs h0 (fun b e => h.2 b (by rw [← e]; exact cut_block.symm))

theorem cell4' {w : World} {b : Nat} {cs : Array Value} {t : TypeId} (h : w.heap[b]? = some (.cells cs t (0, 0))) (j : Nat) (u : Value) (hu : cs[j]? = some u) : w.cell? ⟨b, j, none⟩ = some u := by
  unfold World.cell?; simp only; rw [h]; simpa using hu

set_option maxHeartbeats 1000000 in
set_option maxRecDepth 100000 in
theorem below_of {k : ItTree} (hk : Ok ltB k) (hli : Lim k) (hlv : k.lv.length ≤ 1000000001) (hne : k.lv ≠ []) (hlong : ∀ e ∈ ents k, e.1.length ≤ 1000000001) (S : StandsSpec k) {F : Nat → Prop} {w : World} {v : Value} (h : ItemsAt F w v (ents k)) (hF : ∀ b, F b → b < w.heap.size) :
    Calls Tryz.prog 87 #[v] w fun e w' => ∃ ev ev2 kv, e = .returned (.agg #[ev, .bool (shG k).here, ev2, kv]) ∧ ShAt (Since F w w') w' (ev, ev2, kv) (shG k) ∧ Below w.heap.size w w' := by
  have hlen : (ents k).length = (body k).length := by rw [ents_body, pre_length]
  have hN := hli.count
  have hpos : 0 < (ents k).length := List.length_pos_iff.2 hk.ents_ne
  obtain ⟨b, off, cap, rfl, hFb, hbw, hcap, hmax⟩ := items_some h hpos
  obtain ⟨N, hNN⟩ : ∃ N, (ents k).length = N := ⟨_, rfl⟩
  obtain ⟨C, hCC⟩ : ∃ C, k.lv.length = C := ⟨_, rfl⟩
  have hC1 : 1 ≤ C := by rw [← hCC]; exact List.length_pos_iff.2 hne
  have HN := Lib.hid hNN
  have HCC := Lib.hid hCC
  have HK := Lib.hid hk
  have HS := Lib.hid S
  have HLONG := Lib.hid hlong
  rw [hNN] at hpos hcap h ⊢
  rw [hCC] at hlv
  have hN6 : N ≤ 1000000 := by omega
  have hNb : (body k).length = N := by omega
  have HNB := Lib.hid hNb
  have HI := Lib.hid h
  obtain ⟨W0, hW0⟩ : ∃ W0, w.alloc (.cells #[.slice none 0 0, .bool false, .slice none 0 0, .slice none 0 0] 88) = W0 := ⟨_, rfl⟩
  have g0 : W0.heap[w.heap.size]? = some (.cells #[.slice none 0 0, .bool false, .slice none 0 0, .slice none 0 0] 88 (0, 0)) := by rw [← hW0]; exact (MapKept.heap_alloc w _).1
  have hb0 : Below w.heap.size w W0 := by rw [← hW0]; exact (Below.refl _ _).alloc (Nat.le_refl _) _
  have hs0 : W0.heap.size = w.heap.size + 1 := by rw [← hW0]; simp
  have HB0 := Lib.hid hb0
  have HF := Lib.hid hF
  clear hk S hlong h hli hlen hN hne hNN hCC hNb hb0 hF
  go_enter Tryz.func87, Tryz.ntmps87
  go_wp2_with fail
  (try rw [hW0])
  go_loopg [3] (C - 1) (fun g i3 wr => ∃ j : Nat, j + g = C ∧ 1 ≤ j ∧ i3 = .int .i64 (j : Nat) ∧ Below W0.heap.size W0 wr)
  case atStart => exact ⟨1, by omega, by omega, rfl, Below.refl _ _⟩
  case round =>
    obtain ⟨j, hjg, hj1, rfl, hb⟩ := hrel
    have HB := Lib.hid hb
    have hbw' := HB0.out.trans (hb.mono (by omega))
    have HBW := Lib.hid hbw'
    clear hb hbw'
    go_wp2_with fail
    refine (alike_any (HI.out.keep (Same.below HBW.out)) j (by omega) (by rw [HN.out]; exact hN6) HLONG.out).mono ?_
    rintro e w1 ⟨rfl, hb1⟩
    have hbx := HB.out.trans (hb1.mono HB.out.size)
    have HX := Lib.hid hbx
    clear hbx hb1
    cases gk with
    | succ gk =>
      rw [alike_lt (k := k) (j := j) (by rw [HCC.out]; omega)]
      go_wp2_with fail
      go_roundg gk
      case measure => omega
      case rel => exact ⟨j + 1, by omega, by omega, by go_num, HX.out⟩
    | zero =>
      obtain rfl : j = C := by omega
      have hal := alike_eq linB HK.out
      rw [HCC.out] at hal
      rw [hal]
      clear hal HB HBW
      go_wp2_with fail
      have hXF : ∀ b, F b → b < W0.heap.size := fun b hb => by have := HF.out b hb; omega
      go_loopg [4, 5] N (fun g v4 i5 wr => ∃ i : Nat, i + g = N ∧ i5 = .int .i64 (i : Nat) ∧ Gro W0.heap.size 113 3 ElItem (Out F W0.heap.size wr v4) wr v4 ((body k).take i) ∧ Below W0.heap.size W0 wr)
      case atStart => exact ⟨0, by omega, rfl, Gro.start eltItem (fun b hb => by have := hXF b hb; have := HX.out.size; omega), HX.out⟩
      case round =>
        obtain ⟨i, hig, rfl, hg, hb⟩ := hrel
        obtain ⟨a4, c4, rfl⟩ := hg.slice
        have hn4 : ((body k).take i).length = i := by rw [List.length_take, HNB.out]; omega
        rw [hn4] at hg ⊢
        have HN4 := Lib.hid hn4
        have HB := Lib.hid hb
        have HG := Lib.hid hg
        have hbw' := HB0.out.trans (hb.mono (by omega))
        have HBW := Lib.hid hbw'
        clear hb hg hn4 hbw'
        cases gk with
        | succ gk =>
          have hd : decide ((i : Int) < (N : Int)) = true := decide_eq_true (by omega)
          have hq1 : (0 : Int) ≤ (i : Int) := by omega
          have hq2 : (i : Int) < (N : Int) := by omega
          obtain ⟨e0, he0⟩ : ∃ e0, (body k)[i]? = some e0 := ⟨_, List.getElem?_eq_getElem (by rw [HNB.out]; omega)⟩
          have he : (ents k)[i]? = some (k.lv ++ e0.1, e0.2) := by rw [ents_body]; unfold pre; rw [List.getElem?_map, he0]; rfl
          obtain ⟨sv, ev, p0, p1, p2, hst, hen⟩ := items_one (HI.out.keep (Same.below HBW.out)) he
          rw [← Nat.add_assoc] at p1 p2
          obtain ⟨a1, n1, c1, rfl, hn1⟩ : ∃ a n c, sv = .slice a n c ∧ n = (k.lv ++ e0.1).length := by obtain ⟨⟨_, a, c, e, _⟩, _⟩ := id hst; exact ⟨a, _, c, e, rfl⟩
          obtain ⟨a2, n2, c2, rfl⟩ : ∃ a n c, ev = .slice a n c := by obtain ⟨⟨_, a, c, e, _⟩, _⟩ := id hen; exact ⟨a, _, c, e⟩
          obtain ⟨a9, n9, c9, hcut, hst9⟩ : ∃ a9 n9 c9, (∀ W, (Instr.slice 31 (.slice a1 n1 c1) (some (.int .i64 (j : Nat))) none none).run Tryz.prog W = .ok (.slice a9 n9 c9) W) ∧ StrsF F wr (.slice a9 n9 c9) e0.1 := by
            have h9 := strs_behind hst hn1
            rw [HCC.out] at h9
            exact ⟨_, _, _, fun W => cut_strs W a1 n1 c1 j (by rw [hn1, List.length_append, HCC.out]; omega), h9⟩
          obtain ⟨hb', hbe⟩ : ∃ hb', e0.2.1 = hb' := ⟨_, rfl⟩
          rw [show (k.lv ++ e0.1, e0.2).2.1 = e0.2.1 from rfl, hbe] at p1
          obtain ⟨W1, hW1⟩ : ∃ W1, wr.alloc (.cells #[.slice a1 n1 c1, .bool hb', .slice a2 n2 c2] 113) = W1 := ⟨_, rfl⟩
          have g1 : W1.heap[wr.heap.size]? = some (.cells #[.slice a1 n1 c1, .bool hb', .slice a2 n2 c2] 113 (0, 0)) := by rw [← hW1]; exact (MapKept.heap_alloc wr _).1
          have hb1 : Below wr.heap.size wr W1 := by rw [← hW1]; exact (Below.refl _ _).alloc (Nat.le_refl _) _
          obtain ⟨W2, hW2⟩ : ∃ W2, W1.setCell ⟨wr.heap.size, 0, none⟩ (.slice a9 n9 c9) = W2 := ⟨_, rfl⟩
          have g2 : W2.heap[wr.heap.size]? = some (.cells #[.slice a9 n9 c9, .bool hb', .slice a2 n2 c2] 113 (0, 0)) := by rw [← hW2]; exact heap_setCell_same _ _ _ _ _ _ g1
          have hb2 : Below wr.heap.size wr W2 := by rw [← hW2]; exact hb1.setCell (p := ⟨wr.heap.size, 0, none⟩) (Nat.le_refl _) _
          obtain ⟨v6, w6, hrun, hg6, hb6⟩ := items_more hXF HB.out.size HG.out hb2 (e := e0) (RowF.mono (RowF.keep hst9 (Same.below hb2)) (fun b hb => .inl hb)) (RowF.mono (RowF.keep hen (Same.below hb2)) (fun b hb => .inl hb)) (by have := HN4.out; omega)
          obtain ⟨a6, c6, rfl⟩ := hg6.slice
          have hn6 : ((body k).take i ++ [e0]).length = i + 1 := by rw [List.length_append, HN4.out]; rfl
          rw [hn6] at hrun hg6
          rw [hbe] at hrun
          have hg7 : (body k).take (i + 1) = (body k).take i ++ [e0] := by rw [List.take_add_one, he0]; rfl
          rw [← hg7] at hg6
          have HG6 := Lib.hid hg6
          have HB6 := Lib.hid (HB.out.trans hb6)
          have q0 := cell4' g1 0 _ rfl
          have f1 := frozen_of_row W1 wr.heap.size 0 _ _ g1
          have r0 := cell4' g2 0 _ rfl
          have r1 := cell4' g2 1 _ rfl
          have r2 := cell4' g2 2 _ rfl
          clear hst hen hst9 hb1 hb2 hg6 hb6 hn6 hg7 he0 he hbe hn1 g1 g2
          go_upto_region 9 with fail
          (try rw [hW1])
          go_upto_region 10 with fail
          (try rw [hW2])
          clear hcut
          go_wp2_with (at_builtin; refine Lib.wpList_append_run _ rfl _ _ _ _ rfl _ _ rfl rfl _ _ (hrun _) ?_)
          go_roundg gk
          case measure => omega
          case rel => exact ⟨i + 1, by omega, by go_num, HG6.out, HB6.out⟩
        | zero =>
          obtain rfl : i = N := by omega
          have hd : decide ((i : Int) < (i : Int)) = false := decide_eq_false (by omega)
          obtain ⟨e0, he0⟩ : ∃ e0, (body k)[0]? = some e0 := ⟨_, List.getElem?_eq_getElem (by rw [HNB.out]; omega)⟩
          have he : (ents k)[0]? = some (k.lv ++ e0.1, e0.2) := by rw [ents_body]; unfold pre; rw [List.getElem?_map, he0]; rfl
          obtain ⟨sv, ev, p0, _, _, hst, _⟩ := items_one (HI.out.keep (Same.below HBW.out)) he
          rw [Nat.zero_mul, Nat.add_zero] at p0
          obtain ⟨a1, c1, rfl, h1c, h1m, h1s⟩ := strs_at hst
          obtain ⟨b1, o1, rfl, _⟩ := h1s (by rw [List.length_append, HCC.out]; omega)
          obtain ⟨n1, hn1⟩ : ∃ n1, (k.lv ++ e0.1, e0.2).1.length = n1 := ⟨_, rfl⟩
          rw [hn1] at hst p0 h1c
          have hjn : j ≤ n1 := by rw [← hn1, List.length_append, HCC.out]; omega
          have hse : StrsF F wr (.slice (some ⟨b1, o1, none⟩) j c1) k.lv := by
            have h0 := (strs_reads (G := fun _ => True) hst).part eltStr (by decide) (i := 0) (m := j) (by rw [hn1]; omega)
            rw [List.drop_zero, Nat.zero_mul, Nat.add_zero, Nat.sub_zero] at h0
            have h9 : (k.lv ++ e0.1, e0.2).1.take j = k.lv := by show (k.lv ++ e0.1).take j = k.lv; rw [← HCC.out, List.take_left]
            rw [h9] at h0
            exact reads_strs h0 (fun b e => hst.2 b e)
          obtain ⟨v5, w5, hrun, hv5, hb5⟩ := strs_nil hse (by rw [HCC.out]; omega)
          have hbw5 := HBW.out.trans (hb5.mono (HBW.out.size))
          have hsz := HBW.out.size
          have hsz0 := HB.out.size
          have hg5 := HG.out.move eltItem hXF HB.out.size hb5
          rw [List.take_of_length_le (by rw [HNB.out]; exact Nat.le_refl _)] at hg5
          have hit : ItemsAt (Since F W0 w5) w5 (.slice a4 i c4) (body k) := reads_items (hg5.reads eltItem (fun b hb => by rcases hb with hb | hb; exact .inl hb; exact .inr ⟨by omega, hb.2.1⟩)) (fun b e => .inr ⟨by have := (hg5.bound e).1; omega, (hg5.bound e).2⟩)
          have hst5 : StrsF (Since F W0 w5) w5 v5 k.lv := RowF.mono hv5 (fun b hb => .inr ⟨by have := hb.1; omega, hb.2⟩)
          have HST := Lib.hid (HS.out (Since F W0 w5) w5 v5 (.slice a4 i c4) hst5 hit (fun b hb => by rcases hb with hb | hb; (have := HF.out b hb; have := hbw5.size; omega); exact hb.2))
          obtain ⟨a5, n5, c5, rfl⟩ : ∃ a n c, v5 = .slice a n c := by obtain ⟨⟨_, a, c, e, _⟩, _⟩ := id hv5; exact ⟨a, _, c, e⟩
          have HBW5 := Lib.hid hbw5
          have g5 : w5.heap[w.heap.size]? = some (.cells #[.slice none 0 0, .bool false, .slice none 0 0, .slice none 0 0] 88 (0, 0)) := (hb5.block _ (by omega)).trans ((HB.out.block _ (by omega)).trans g0)
          have G5 := Lib.hid g5
          have hq1 : (j : Int) ≤ (c1 : Int) := by omega
          have hq0 : ¬ c1 = 0 := by omega
          have hsz5 : w.heap.size < w5.heap.size := by have := hb5.size; omega
          clear hst hse hv5 hb5 hg5 hit hst5 hbw5 g5 he0 he hn1
          go_wp2_with (at_builtin; refine Lib.wpList_append_run _ rfl _ _ _ _ rfl _ _ rfl rfl _ _ (hrun _) ?_)
          refine HST.out.mono ?_
          rintro e w6 ⟨ev2, kv, rfl, hsh, hb6⟩
          obtain ⟨x1, y1, z1, x2, y2, z2, x3, y3, z3, hee⟩ := hsh.slices
          injection hee with he1 he2
          injection he2 with he2 he3
          injection he1 with k1 k2 k3
          subst k1; subst k2; subst k3; subst he2; subst he3
          obtain ⟨hh, hhe⟩ : ∃ hh, (shG k).here = hh := ⟨_, rfl⟩
          have HHE := Lib.hid hhe
          rw [hhe]
          have g6 := (hb6.block w.heap.size hsz5).trans G5.out
          have t0 := cell4' g6 0 _ rfl
          have t1 := cell4' g6 1 _ rfl
          have t2 := cell4' g6 2 _ rfl
          have t3 := cell4' g6 3 _ rfl
          have tf := fun j => frozen_of_row w6 w.heap.size j _ _ g6
          have HSH := Lib.hid hsh
          have HB6 := Lib.hid hb6
          have HG6 := Lib.hid g6
          clear hsh hb6 g6 hrun hhe
          go_wp2_with fail
          obtain ⟨W4, hW4⟩ : ∃ W4, (((w6.setCell ⟨w.heap.size, 0, none⟩ (.slice a5 n5 c5)).setCell ⟨w.heap.size, 1, none⟩ (.bool hh)).setCell ⟨w.heap.size, 2, none⟩ (.slice x2 y2 z2)).setCell ⟨w.heap.size, 3, none⟩ (.slice x3 y3 z3) = W4 := ⟨_, rfl⟩
          obtain ⟨g4, b4, s4⟩ := set4 HG6.out hW4
          have o4 : ∀ k, k ≠ w.heap.size → W4.heap[k]? = w6.heap[k]? := fun k hk => by
            rw [← hW4]
            exact (heap_setCell_other _ _ _ _ hk).trans ((heap_setCell_other _ _ _ _ hk).trans ((heap_setCell_other _ _ _ _ hk).trans (heap_setCell_other _ _ _ _ hk)))
          rw [hW4]
          clear hW4 t0 t1 t2 t3
          have m0 := cell4' g4 0 _ rfl
          have m1 := cell4' g4 1 _ rfl
          have m2 := cell4' g4 2 _ rfl
          have m3 := cell4' g4 3 _ rfl
          refine bodyPost_ret (v := .agg #[.slice a5 n5 c5, .bool hh, .slice x2 y2 z2, .slice x3 y3 z3]) (by simp [results, Tryz.results87, go_sem, m0, m1, m2, m3]) rfl ?_
          have hs6 := HB6.out.size
          refine ⟨_, _, _, by rw [HHE.out], (HSH.out.keep (fun k hk hF => o4 k ?_)).mono (fun x hx => ?_), ((HBW5.out.trans (HB6.out.mono HBW5.out.size))).trans (b4 _ (Nat.le_refl _))⟩
          · rcases hF with (hF | hF) | hF
            · have := HF.out k hF; omega
            · omega
            · omega
          · rcases hx with (hx | hx) | hx
            · exact .inl hx
            · exact .inr ⟨by omega, by omega⟩
            · exact .inr ⟨by omega, by omega⟩
end Go.Proofs.YtgnffkahlniehaaGreat

/- Proved here: crierref7.Nodes, of a shape: how many nodes it has. -/
namespace Go.Proofs.YtgnffkahlniehaaGreat
open Go Go.RowKit Go.Proofs.Gs Go.Proofs.Tri Go.Proofs.Rt Go.Proofs.Tp

theorem countL_app : ∀ a b : List Sh, Sh.count.countL (a ++ b) = Sh.count.countL a + Sh.count.countL b
  | [], b => by rw [List.nil_append, Sh.count.countL, Nat.zero_add]
  | k :: a, b => by rw [List.cons_append, Sh.count.countL, Sh.count.countL, countL_app a b, Nat.add_assoc]
theorem countL_take {ks : List Sh} {i : Nat} {k : Sh} (h : ks[i]? = some k) : Sh.count.countL (ks.take (i + 1)) = Sh.count.countL (ks.take i) + k.count := by
  rw [List.take_add_one, h, countL_app]
  show _ + (k.count + 0) = _
  rw [Nat.add_zero]
theorem countL_le (ks : List Sh) (i : Nat) : Sh.count.countL (ks.take i) ≤ Sh.count.countL ks := by
  have h := countL_app (ks.take i) (ks.drop i)
  rw [List.take_append_drop] at h
  omega
theorem count_pos : ∀ s : Sh, 1 ≤ s.count
  | .node _ _ _ ks => by rw [Sh.count]; omega
theorem countL_many : ∀ ks : List Sh, ks.length ≤ Sh.count.countL ks
  | [] => Nat.le_refl _
  | k :: ks => by rw [Sh.count.countL, List.length_cons]; have := count_pos k; have := countL_many ks; omega

set_option maxHeartbeats 1000000 in
set_option maxRecDepth 100000 in
theorem rnodes_any : ∀ (s : Sh) (F : Nat → Prop) (w : World) (sv ev kv : Value), ShAt F w (sv, ev, kv) s → s.count ≤ 1000000000 →
    Calls Tryz.prog 71 #[.agg #[sv, .bool s.here, ev, kv]] w fun e w' => e = .returned (.int .i64 (s.count : Nat)) ∧ Below w.heap.size w w' := by
  refine Sh.ind (fun lv here es ks ih => ?_)
  intro F w s1 e1 k1 h1 hcn
  show Calls Tryz.prog 71 #[.agg #[s1, .bool here, e1, k1]] w _
  rw [Sh.count] at hcn ⊢
  obtain ⟨rs1, hs1, he1, hl1, hk1, hn1⟩ : ∃ rs1 : List Sl3, StrsF F w s1 lv ∧ EntsF F w e1 es ∧ rs1.length = ks.length ∧ RowF F w 4 k1 rs1.length (shCells rs1 ks) ∧ ∀ (i : Nat) (r : Sl3) (k : Sh), rs1[i]? = some r → ks[i]? = some k → ShAt F w r k := by cases h1; exact ⟨_, by assumption, by assumption, by assumption, by assumption, by assumption⟩
  have hcall : ∀ (i : Nat) (r1 : Sl3) (k : Sh), rs1[i]? = some r1 → ks[i]? = some k → ∀ W, Below w.heap.size w W →
      Calls Tryz.prog 71 #[.agg #[r1.1, .bool k.here, r1.2.1, r1.2.2]] W fun e w' => e = .returned (.int .i64 (k.count : Nat)) ∧ Below W.heap.size W w' := fun i r1 k g1 g3 W hW => by
    have hm := List.mem_of_getElem? g3
    have h2 := countL_take g3
    have h3 := countL_le ks (i + 1)
    exact ih k hm F W _ _ _ ((hn1 i r1 k g1 g3).keep (Same.below hW)) (by omega)
  obtain ⟨n, hn⟩ : ∃ n, ks.length = n := ⟨_, rfl⟩
  have hn9 : n ≤ 1000000000 := by have := countL_many ks; omega
  obtain ⟨T, hT⟩ : ∃ T, Sh.count.countL ks = T := ⟨_, rfl⟩
  rw [hT] at hcn ⊢
  rw [hl1, hn] at hk1
  obtain ⟨⟨_, a1, c1, rfl, _⟩, _⟩ := id hs1
  obtain ⟨⟨_, a3, c3, rfl, _⟩, _⟩ := id he1
  obtain ⟨⟨_, a5, c5, rfl, _⟩, _⟩ := id hk1
  have HK1 := Lib.hid hk1
  have HC := Lib.hid hcall
  have HL1 := Lib.hid hl1
  have HN := Lib.hid hn
  have HT := Lib.hid hT
  obtain ⟨l1, hl⟩ : ∃ l1, lv.length = l1 := ⟨_, rfl⟩
  obtain ⟨l3, hl3⟩ : ∃ l3, es.length = l3 := ⟨_, rfl⟩
  rw [hl, hl3]
  clear ih hs1 he1 hk1 hcall hl1 hn1 hn hT h1 hl hl3
  obtain ⟨W0, hW0⟩ : ∃ W0, w.alloc (.cells #[.slice a1 l1 c1, .bool here, .slice a3 l3 c3, .slice a5 n c5] 88) = W0 := ⟨_, rfl⟩
  have g0 : W0.heap[w.heap.size]? = some (.cells #[.slice a1 l1 c1, .bool here, .slice a3 l3 c3, .slice a5 n c5] 88 (0, 0)) := by rw [← hW0]; exact (MapKept.heap_alloc w _).1
  have hb0 : Below w.heap.size w W0 := by rw [← hW0]; exact (Below.refl _ _).alloc (Nat.le_refl _) _
  have hs0 : W0.heap.size = w.heap.size + 1 := by rw [← hW0]; simp
  have z3 := cell4 g0 3 _ rfl
  go_enter Tryz.func71, Tryz.ntmps71
  go_wp2_with fail
  try rw [hW0]
  go_loopg [3, 4] n (fun gg n3 i5 wr => ∃ j : Nat, j + gg = n ∧ i5 = .int .i64 (j : Nat) ∧ n3 = .int .i64 ((1 + Sh.count.countL (ks.take j) : Nat) : Int) ∧ Below W0.heap.size W0 wr)
  case atStart => exact ⟨0, by omega, rfl, rfl, Below.refl _ _⟩
  case round =>
    obtain ⟨j, hj, rfl, rfl, hbw⟩ := hrel
    have HBW := Lib.hid hbw
    have x3 := cell_below hbw z3
    obtain ⟨S, hS⟩ : ∃ S, 1 + Sh.count.countL (ks.take j) = S := ⟨_, rfl⟩
    have HS := Lib.hid hS
    rw [hS]
    clear z3 hbw hS
    cases gk with
    | zero =>
      obtain rfl : j = n := by omega
      have hd : decide ((j : Int) < (j : Int)) = false := decide_eq_false (by omega)
      go_wp2_with fail
      go_ret
      refine ⟨?_, hb0.trans (HBW.out.mono hb0.size)⟩
      have : S = 1 + T := by rw [← HS.out, List.take_of_length_le (by have := HN.out; omega), HT.out]
      rw [this]
      rfl
    | succ gk =>
      have hjn : j < n := by omega
      have hd : decide ((j : Int) < (n : Int)) = true := decide_eq_true (by omega)
      have hb1 : (0 : Int) ≤ (j : Int) := by omega
      have hb2 : (j : Int) < (n : Int) := by omega
      obtain ⟨k, g3⟩ : ∃ k, ks[j]? = some k := ⟨_, List.getElem?_eq_getElem (show j < ks.length by have := HN.out; omega)⟩
      obtain ⟨r1, g4⟩ : ∃ r, rs1[j]? = some r := ⟨_, List.getElem?_eq_getElem (show j < rs1.length by have := HN.out; have := HL1.out; omega)⟩
      have hbx : Below w.heap.size w wr := hb0.trans (HBW.out.mono hb0.size)
      obtain ⟨cb1, of1, rfl, hn1, hm1, hc1⟩ : ∃ cb off, a5 = some ⟨cb, off, none⟩ ∧ n ≤ c5 ∧ c5 ≤ 9223372036854775807 ∧ ∀ i u, (shCells rs1 ks)[i]? = some u → w.cell? ⟨cb, off + i, none⟩ = some u := by
        rcases RowAt.cases HK1.out.1 with ⟨h8, _⟩ | ⟨_, cb, off, cap, e, q1, q2, _, h⟩
        · omega
        · injection e with e1 e2 e3
          subst e3
          exact ⟨cb, off, e1, q1, q2, h⟩
      have p0 := cell_below hbx (hc1 _ _ (shCells_get (o := 0) g4 g3 rfl))
      have p1 := cell_below hbx (hc1 _ _ (shCells_get (o := 1) g4 g3 rfl))
      have p2 := cell_below hbx (hc1 _ _ (shCells_get (o := 2) g4 g3 rfl))
      have p3 := cell_below hbx (hc1 _ _ (shCells_get (o := 3) g4 g3 rfl))
      rw [Nat.add_zero] at p0
      rw [← Nat.add_assoc] at p1 p2 p3
      have HCALL := Lib.hid (HC.out j r1 k g4 g3 wr hbx)
      have h2 := countL_take g3
      have h3 := countL_le ks (j + 1)
      obtain ⟨x, hx⟩ : ∃ x, k.count = x := ⟨_, rfl⟩
      have HX := Lib.hid hx
      have HST := Lib.hid (show 1 + Sh.count.countL (ks.take (j + 1)) = S + x by rw [h2, ← HS.out, hx, Nat.add_assoc])
      have hSx : (S : Int) + (x : Int) ≤ 1000000000 := by have := HST.out; have := HT.out; omega
      have w0 := id p0
      have w1 := id p1
      have w2 := id p2
      have w3 := id p3
      clear hbx hc1 g3 g4 h2 h3 hx
      go_wp2_with fail
      refine HCALL.out.mono ?_
      rintro e w5 ⟨rfl, hb5⟩
      rw [HX.out]
      have HB5 := Lib.hid (HBW.out.trans (hb5.mono HBW.out.size))
      clear hb5
      go_wp2_with fail
      go_roundg gk
      case measure => omega
      case rel => exact ⟨j + 1, by omega, by go_num, by rw [HST.out]; go_num, HB5.out⟩
end Go.Proofs.YtgnffkahlniehaaGreat

/- Plain: the document's list behind a Put, a Drop. No program in sight. -/
namespace Go.Proofs.YtgnffkahlniehaaGreat
open Go Go.RowKit Go.Proofs.Gs Go.Proofs.Tri Go.Proofs.Rt Go.Proofs.Tp

def spotL (s : ByteArray) (B : Ents) : Nat := spot (lex ltB) (levels s) B
theorem vals_put {B : Ents} (hB : Keyed B) {m : MsgV} (hm : taken m = true) : vals (putB B m) = (vals B).take (spotL m.topic B) ++ m :: (vals B).drop (spotL m.topic B + if (get (levels m.topic) B).isSome = true then 1 else 0) := by
  unfold putB
  rw [if_pos hm, ins_spot (lexLin linB) hB.sorted]
  unfold vals spotL
  rw [List.map_append, List.map_cons, List.map_take, List.map_drop]
theorem vals_era {B : Ents} (hB : Keyed B) {s : ByteArray} (h : (get (levels s) B).isSome = true) : vals (era (levels s) B) = (vals B).take (spotL s B) ++ (vals B).drop (spotL s B + 1) := by
  rw [era_spot (lexLin linB) hB.sorted h]
  unfold vals spotL
  rw [List.map_append, List.map_take, List.map_drop]
theorem era_length (p : List ByteArray) (B : Ents) : (era p B).length ≤ B.length := by unfold era; exact List.length_filter_le ..
theorem era_mem {p : List ByteArray} {B : Ents} {e : List ByteArray × MsgV} (h : e ∈ era p B) : e ∈ B := by unfold era at h; exact (List.mem_filter.1 h).1
theorem spot_more {B : Ents} (hB : Keyed B) {s : ByteArray} (h : (get (levels s) B).isSome = true) : spotL s B + 1 ≤ B.length := by
  have h2 := get_spot (lexLin linB) (p := levels s) hB.sorted
  cases hl : B[spot (lex ltB) (levels s) B]? with
  | none => rw [hl] at h2; rw [h2] at h; simp at h
  | some e => have := (List.getElem?_eq_some_iff.1 hl).1; exact this
theorem vals_filter (q : MsgV → Bool) : ∀ B : Ents, vals (B.filter (fun e => q e.2)) = (vals B).filter q
  | [] => rfl
  | e :: B => by
    have ih := vals_filter q B
    unfold vals at ih ⊢
    rw [List.map_cons, List.filter_cons, List.filter_cons]
    split
    · rw [List.map_cons, ih]
    · exact ih
theorem filter_step {α : Type} {l : List α} {q : α → Bool} {i : Nat} {a : α} (h : l[i]? = some a) : (l.take (i + 1)).filter q = (l.take i).filter q ++ if q a = true then [a] else [] := by
  rw [List.take_add_one, h, List.filter_append]
  cases hq : q a <;> simp [List.filter, hq]
end Go.Proofs.YtgnffkahlniehaaGreat

/- Proved here: the contract of crierref9's place: where a topic's message stands in the list. -/
namespace Go.Proofs.YtgnffkahlniehaaGreat
open Go Go.RowKit Go.Proofs.Gs Go.Proofs.Tri Go.Proofs.Rt Go.Proofs.Tp

theorem cmpL_ge : ∀ (a b : List ByteArray), lex ltB a b = false → 0 ≤ cmpL a b
  | [], [], _ => Int.le_refl _
  | [], y :: b, h => by simp [lex] at h
  | x :: a, [], _ => by show (0 : Int) ≤ 1; omega
  | x :: a, y :: b, h => by
    rw [lex_cons] at h
    by_cases e : x = y
    · rw [if_pos e] at h
      have h0 : cmpB x y = 0 := (cmpB_zero x y).2 e
      show 0 ≤ (if cmpB x y = 0 then cmpL a b else cmpB x y)
      rw [if_pos h0]
      exact cmpL_ge a b h
    · rw [if_neg e] at h
      have h0 : ¬ cmpB x y = 0 := fun e0 => e ((cmpB_zero x y).1 e0)
      have h1 : ¬ cmpB x y = -1 := fun e1 => by rw [ltB_iff.2 e1] at h; exact absurd h (by simp)
      show 0 ≤ (if cmpB x y = 0 then cmpL a b else cmpB x y)
      rw [if_neg h0]
      rcases cmpB_cases x y with h2 | h2 | h2 <;> omega

/-- The document's trie in memory: a list. -/
structure Lis (F : Nat → Prop) (w : World) (mb : Nat) (B : Ents) : Prop where
  row0 : ∃ v, w.heap[mb]? = some (.cells #[v] 64 (0, 0)) ∧ MsgsAt F w v (vals B) ∧ (v = .slice none 0 0 ∨ ∃ g cap, v = .slice (some ⟨g, 0, none⟩) B.length cap)
  keyed : Keyed B
  out : ¬ F mb
  old : ∀ x, F x → x < w.heap.size

theorem Lis.row {F : Nat → Prop} {w : World} {mb : Nat} {B : Ents} (h : Lis F w mb B) : ∃ v, w.heap[mb]? = some (.cells #[v] 64 (0, 0)) ∧ MsgsAt F w v (vals B) := by
  obtain ⟨v, h1, h2, _⟩ := h.row0
  exact ⟨v, h1, h2⟩
theorem Lis.lt {F : Nat → Prop} {w : World} {mb : Nat} {B : Ents} (h : Lis F w mb B) : mb < w.heap.size := by
  obtain ⟨v, h1, _⟩ := h.row
  exact (Array.getElem?_eq_some_iff.1 h1).1
theorem Lis.c0 {F : Nat → Prop} {w : World} {mb : Nat} {B : Ents} (h : Lis F w mb B) : ∃ v, w.cell? ⟨mb, 0, none⟩ = some v ∧ MsgsAt F w v (vals B) := by
  obtain ⟨v, h1, h2⟩ := h.row
  exact ⟨v, by unfold World.cell?; simp only; rw [h1]; rfl, h2⟩
theorem Lis.same {F : Nat → Prop} {w w' : World} {mb : Nat} {B : Ents} (h : Lis F w mb B) (hs : Same F w w') (hm : w'.heap[mb]? = w.heap[mb]?) (hsz : w.heap.size ≤ w'.heap.size) : Lis F w' mb B := by
  obtain ⟨v, h1, h2, h3⟩ := h.row0
  exact ⟨⟨v, hm.trans h1, h2.keep hs, h3⟩, h.keyed, h.out, fun x hx => Nat.lt_of_lt_of_le (h.old x hx) hsz⟩
theorem Lis.below {F : Nat → Prop} {w w' : World} {mb : Nat} {B : Ents} (h : Lis F w mb B) (hb : Below w.heap.size w w') : Lis F w' mb B := h.same (Same.below hb) (hb.block mb h.lt) hb.size
theorem Lis.grown {F : Nat → Prop} {w w' : World} {mb tb : Nat} {B : Ents} (h : Lis F w mb B) (hg : w.grownBy w' (some tb)) (h1 : tb ≠ mb) (h2 : ¬ F tb) : Lis F w' mb B :=
  h.same (fun k hk hF => hg.block k hk (fun e => h2 (by injection e with e; exact e ▸ hF))) (hg.block mb h.lt (fun e => h1 (by injection e with e; exact e.symm))) hg.size
theorem vals_get {B : Ents} {i : Nat} : (vals B)[i]? = B[i]?.map Prod.snd := List.getElem?_map ..

theorem spot_lt {B : Ents} (hB : Keyed B) {s : ByteArray} {i : Nat} {m : MsgV} (hi : i < spotL s B) (h : (vals B)[i]? = some m) : cmpT m.topic s = -1 := by
  rw [vals_get] at h
  obtain ⟨e, he, rfl⟩ := Option.map_eq_some_iff.1 h
  have h1 := spot_ahead hi he
  rw [(hB.key e (List.mem_of_getElem? he)).1] at h1
  exact cmpL_lex _ _ h1
theorem spot_ge {B : Ents} (hB : Keyed B) {s : ByteArray} {m : MsgV} (h : (vals B)[spotL s B]? = some m) : 0 ≤ cmpT m.topic s ∧ (get (levels s) B).isSome = decide (m.topic = s) := by
  rw [vals_get] at h
  obtain ⟨e, he, rfl⟩ := Option.map_eq_some_iff.1 h
  have h1 := spot_stop he
  have hk := (hB.key e (List.mem_of_getElem? he)).1
  rw [hk] at h1
  refine ⟨cmpL_ge _ _ h1, ?_⟩
  rw [get_spot (lexLin linB) hB.sorted]
  unfold spotL at he
  rw [he]
  simp only
  by_cases ht : e.2.topic = s
  · rw [if_pos (by rw [hk, ht]), decide_eq_true ht]; rfl
  · rw [if_neg (fun x => ht (levels_inj (hk.symm.trans x))), decide_eq_false ht]; rfl
theorem spot_end {B : Ents} (hB : Keyed B) {s : ByteArray} (h : spotL s B = B.length) : (get (levels s) B).isSome = false := by
  rw [get_spot (lexLin linB) hB.sorted]
  unfold spotL at h
  rw [h, List.getElem?_eq_none (Nat.le_refl _)]
  rfl

set_option maxHeartbeats 4000000 in
set_option maxRecDepth 100000 in
theorem rlPlace_any {F : Nat → Prop} {w : World} {mb : Nat} {B : Ents} (h : Lis F w mb B) (s : ByteArray) (hs : s.size ≤ 1000000000) (hB : ∀ e ∈ B, e.2.topic.size ≤ 1000000000) (hlen : B.length ≤ 1000000) :
    Calls Tryz.prog 30 #[.pointer (some ⟨mb, 0, none⟩), .string s] w fun e w' => e = .returned (.tuple #[.int .i64 (spotL s B : Nat), .bool (get (levels s) B).isSome]) ∧ Below w.heap.size w w' := by
  obtain ⟨v, c0, hm⟩ := h.c0
  have HKY := Lib.hid h.keyed
  obtain ⟨K, hK⟩ : ∃ K, B.length = K := ⟨_, rfl⟩
  have HK := Lib.hid hK
  have hvl := (vals_length : (vals B).length = B.length)
  obtain ⟨a, cap, rfl, hcap, hmax⟩ := hm.slice
  rw [hvl, hK] at c0 hcap hm
  have HM := Lib.hid hm
  have HC := Lib.hid c0
  have HBS := Lib.hid hB
  have hsp := spot_le (lt := lex ltB) (levels s) B
  obtain ⟨P, hP⟩ : ∃ P, spotL s B = P := ⟨_, rfl⟩
  have HP := Lib.hid hP
  change spotL s B ≤ _ at hsp
  rw [hP, hK] at hsp
  rw [hK] at hlen
  rw [hP]
  clear h hm hB hK hvl hP c0
  go_enter Tryz.func30, Tryz.ntmps30
  go_wp2_with fail
  go_loopg [6] P (fun g i6 wr => ∃ i : Nat, i + g = P ∧ i6 = .int .i64 (i : Nat) ∧ Below w.heap.size w wr)
  case atStart => exact ⟨0, by omega, rfl, Below.refl _ _⟩
  case round =>
    obtain ⟨i, hig, rfl, hb⟩ := hrel
    have HB := Lib.hid hb
    have c0 := cell_below hb HC.out
    clear hb
    by_cases hiK : i = K
    · have hd : decide ((i : Int) < (K : Int)) = false := decide_eq_false (by omega)
      obtain rfl : i = P := by omega
      have hres := spot_end HKY.out (s := s) (by rw [HP.out, HK.out, hiK])
      have HRES := Lib.hid hres
      clear hres
      go_wp2_with fail
      go_quiet (fail)
      have hx := HB.out.trans ((below_drew wr nq).mono HB.out.size)
      have HX := Lib.hid hx
      clear hx
      generalize wr.drewN nq = V at HX ⊢
      go_wp2_with fail
      go_ret2
      exact ⟨by rw [HRES.out]; rfl, HX.out⟩
    · have hd : decide ((i : Int) < (K : Int)) = true := decide_eq_true (by omega)
      have hq1 : (0 : Int) ≤ (i : Int) := by omega
      have hq2 : (i : Int) < (K : Int) := by omega
      obtain ⟨m, hmm⟩ : ∃ m, (vals B)[i]? = some m := ⟨_, List.getElem?_eq_getElem (by rw [vals_length, HK.out]; omega)⟩
      have hM := HM.out.keep (Same.below HB.out)
      obtain ⟨fb, fo, rfl⟩ : ∃ fb fo, a = some ⟨fb, fo, none⟩ := by
        obtain ⟨b, o, c, e, _⟩ := MsgsAt.some HM.out (by rw [vals_length, HK.out]; omega)
        injection e with e1 e2 e3
        exact ⟨b, o, e1⟩
      obtain ⟨_, k0, _, _, _, _⟩ := hM.one hmm
      have hms : m.topic.size ≤ 1000000000 := by
        obtain ⟨e, he, rfl⟩ := List.mem_map.1 (List.mem_of_getElem? hmm)
        exact HBS.out e he
      have HMM := Lib.hid hmm
      clear hM hmm
      cases gk with
      | zero =>
        obtain rfl : i = P := by omega
        obtain ⟨hge, hres⟩ := spot_ge HKY.out (s := s) (by rw [HP.out]; exact HMM.out)
        have hd2 : decide (cmpT m.topic s < 0) = false := decide_eq_false (by omega)
        have HRES := Lib.hid hres
        clear hres hge
        go_wp2_with fail
        refine (rfCompare_any m.topic s _ hms hs).mono ?_
        rintro e w2 ⟨rfl, hb2⟩
        have hbx := HB.out.trans (hb2.mono HB.out.size)
        have HX := Lib.hid hbx
        have c0' := cell_below hb2 c0
        have k0' := cell_below hb2 k0
        clear hbx hb2 c0 k0
        go_wp2_with fail
        by_cases hts : m.topic = s
        · have he1 : (m.topic.toList == s.toList) = true := by rw [hts]; simp
          go_quiet (fail)
          have hx := HX.out.trans ((below_drew w2 nq).mono HX.out.size)
          have HY := Lib.hid hx
          clear hx
          generalize w2.drewN nq = V at HY ⊢
          go_wp2_with fail
          go_ret2
          exact ⟨by rw [HRES.out, decide_eq_true hts]; rfl, HY.out⟩
        · have he1 : (m.topic.toList == s.toList) = false := by
            rw [beq_eq_false_iff_ne]
            exact fun e => hts (ba_ext (by rwa [Lib.toList_data, Lib.toList_data] at e))
          go_quiet (fail)
          have hx := HX.out.trans ((below_drew w2 nq).mono HX.out.size)
          have HY := Lib.hid hx
          clear hx
          generalize w2.drewN nq = V at HY ⊢
          go_wp2_with fail
          go_ret2
          exact ⟨by rw [HRES.out, decide_eq_false hts]; rfl, HY.out⟩
      | succ gk =>
        have hlt := spot_lt HKY.out (s := s) (by rw [HP.out]; omega) HMM.out
        have hd2 : decide ((-1 : Int) < 0) = true := by decide
        have HLT := Lib.hid hlt
        clear hlt
        go_wp2_with fail
        refine (rfCompare_any m.topic s _ hms hs).mono ?_
        rintro e w2 ⟨rfl, hb2⟩
        rw [HLT.out]
        have hbx := HB.out.trans (hb2.mono HB.out.size)
        have HX := Lib.hid hbx
        clear hbx hb2 c0 k0
        go_wp2_with fail
        go_roundg gk
        case measure => omega
        case rel => exact ⟨i + 1, by omega, by go_num, HX.out⟩
end Go.Proofs.YtgnffkahlniehaaGreat

/- Proved here: a row of bytes appended to nil. -/
namespace Go.Proofs.YtgnffkahlniehaaGreat
open Go Go.RowKit Go.Proofs.Gs Go.Proofs.Tri Go.Proofs.Rt Go.Proofs.Tp Go.Proofs.Rg

theorem append_nil_bytes {G : Nat → Prop} {w : World} {pv : Value} {l : List Int} (h : RowF G w 1 pv l.length (payCells l)) (hp : l.length ≤ 1000000000) :
    ∃ v1 W1, (∀ ty, (Builtin.append_ #[34, 34] ty #[.slice none 0 0, pv]).run Tryz.prog w = .ok v1 W1) ∧ RowF (fun x => x = w.heap.size ∧ w.heap.size < W1.heap.size) W1 1 v1 l.length (payCells l) ∧ Below w.heap.size w W1 := by
  obtain ⟨i0, hi0, hz0, hz1, hz2⟩ := info_parts infoCloB
  have hpl : (payCells l).length = l.length := List.length_map ..
  rcases RowAt.cases h.1 with ⟨h0, _, a, c, e, _⟩ | ⟨hpos, b, o, c, e, q1, q2, q3, hc⟩
  · have hl : l = [] := List.eq_nil_of_length_eq_zero h0
    subst hl
    subst e
    refine ⟨.slice none 0 0, w, fun ty => ?_, ⟨⟨rfl, none, 0, rfl, Nat.le_refl _, Nat.zero_le _, .inl rfl⟩, fun x hx => by simp [Value.ownBlock] at hx⟩, Below.refl _ _⟩
    have hf : (Builtin.firstCells i0.size 0 (.slice a 0 c)).run Tryz.prog w = .ok (#[] : Array Value) w := by
      cases a with
      | none => exact run_firstCells_none w i0.size 0 0 c
      | some a => exact run_firstCells_some w i0.size 0 a 0 c [] (by simp) (by simp)
    simp [Builtin.append_, run_underlying Tryz.underlying34, sizeOf, typeInfo, zeroValue, hi0, hz0, Builtin.lenOf, hf]
  · subst e
    refine ⟨_, _, fun ty => run_append_nil w 34 ty 5 i0 (.int .u8 0) Tryz.underlying34 hi0 hz0 ⟨b, o, none⟩ l.length c (payCells l) (by rw [hpl, hz1, Nat.mul_one]) (fun j v hv => (by have h9 := hc j v hv; rcases Nat.eq_zero_or_pos j with hj | hj; (subst hj; simpa [Addr.add] using h9); (simpa [Addr.add, Nat.ne_of_gt hj] using h9))) hpos (by omega) (by rw [hz2]; omega), ?_, ?_⟩
    · have hg := grownCap_ge w l.length 0 5
      have hm := grownCap_le_maxLen w l.length 0 5 (by unfold maxLen; omega)
      refine ⟨⟨by rw [hpl, Nat.mul_one], _, _, rfl, hg, hm, .inr ⟨w.heap.size, 0, rfl, by simp, fun j u hu => ?_⟩⟩, fun x hx => ⟨by simpa [Value.ownBlock] using hx.symm, by simp⟩⟩
      have hj := (List.getElem?_eq_some_iff.1 hu).1
      have := World.cell?_alloc_mark w.drew ((payCells l).toArray ++ Builtin.zeroCells (Value.int .u8 0).cells (grownCap w l.length 0 5 - l.length)) 5 (0, 0) j
      rw [show w.drew.heap.size = w.heap.size from rfl] at this
      rw [Nat.zero_add, this]
      rw [Array.getElem?_append_left (by simpa using hj)]
      simpa using hu
    · exact (Below.refl _ w).drew.alloc (Nat.le_refl _) _
end Go.Proofs.YtgnffkahlniehaaGreat

/- Proved here: the contract of crierref2.CopyMessage. -/
namespace Go.Proofs.YtgnffkahlniehaaGreat
open Go Go.RowKit Go.Proofs.Gs Go.Proofs.Tri Go.Proofs.Rt Go.Proofs.Tp Go.Proofs.Rg

set_option maxHeartbeats 2000000 in
set_option maxRecDepth 100000 in
theorem copyMsg_any {F : Nat → Prop} {w : World} {v : Value} {m : MsgV} (h : MsgVal F w v m) (hn : m.pay.length ≤ 1000000000) :
    Calls Tryz.prog 31 #[v] w fun e w' => ∃ v', e = .returned v' ∧ MsgVal (Fresh w w') w' v' m ∧ Below w.heap.size w w' := by
  obtain ⟨pv, rfl, hp⟩ := h
  obtain ⟨n, hnn⟩ : ∃ n, m.pay.length = n := ⟨_, rfl⟩
  obtain ⟨⟨_, a, cap, rfl, _⟩, _⟩ := id hp
  obtain ⟨W0, hW0⟩ : ∃ W0, (w.alloc (.cells #[.string m.topic, .slice a m.pay.length cap, .int .i64 m.qos, .bool m.ret] 36)).alloc (.cells #[.string ⟨#[]⟩, .slice none 0 0, .int .i64 0, .bool false] 36) = W0 := ⟨_, rfl⟩
  obtain ⟨hb0, hs0, g0, g1⟩ := two_rows hW0
  obtain ⟨v1, w1, hrz, hrow, hb1⟩ := append_nil_bytes (hp.keep (Same.below hb0)) hn
  obtain ⟨⟨_, a1, c1, rfl, _⟩, _⟩ := id hrow
  have h0 := (hb1.block w.heap.size (by omega)).trans g0
  have h1 := (hb1.block (w.heap.size + 1) (by omega)).trans g1
  have HOW := Lib.hid hrow
  have HB0 := Lib.hid hb0
  have HB1 := Lib.hid hb1
  have HS0 := Lib.hid hs0
  have HNN := Lib.hid hnn
  have y1 : W0.cell? ⟨w.heap.size, 1, none⟩ = some (.slice a m.pay.length cap) := by unfold World.cell?; simp only; rw [g0]; rfl
  have r1 : w1.cell? ⟨w.heap.size, 1, none⟩ = some (.slice a m.pay.length cap) := by unfold World.cell?; simp only; rw [h0]; rfl
  have f0 := fun j => frozen_of_row w1 w.heap.size j _ _ h0
  have f1 := fun j => frozen_of_row w1 (w.heap.size + 1) j _ _ h1
  rw [hnn] at hrz hW0 h0 y1 r1 ⊢
  clear hp hrow hb0 hb1 g0 g1 hnn
  go_enter Tryz.func31, Tryz.ntmps31
  go_upto_region 3 with (at_builtin; refine Lib.wpList_append_run _ rfl _ _ _ _ rfl _ _ rfl rfl _ _ (hrz _) ?_)
  obtain ⟨w2, hw2⟩ : ∃ w2, w1.setCell ⟨w.heap.size, 1, none⟩ (.slice a1 n c1) = w2 := ⟨_, rfl⟩
  have h0' : w2.heap[w.heap.size]? = some (.cells #[.string m.topic, .slice a1 n c1, .int .i64 m.qos, .bool m.ret] 36 (0, 0)) := by rw [← hw2]; exact heap_setCell_same _ _ _ _ _ _ h0
  have h1' : w2.heap[w.heap.size + 1]? = some (.cells #[.string ⟨#[]⟩, .slice none 0 0, .int .i64 0, .bool false] 36 (0, 0)) := by rw [← hw2]; exact (heap_setCell_other _ _ _ _ (by simp)).trans h1
  rw [hw2]
  have HW2 := Lib.hid hw2
  clear hw2 h0 h1 r1 f0 f1
  have m0 : w2.cell? ⟨w.heap.size, 0, none⟩ = some (.string m.topic) := by unfold World.cell?; simp only; rw [h0']; rfl
  have m1 : w2.cell? ⟨w.heap.size, 1, none⟩ = some (.slice a1 n c1) := by unfold World.cell?; simp only; rw [h0']; rfl
  have m2 : w2.cell? ⟨w.heap.size, 2, none⟩ = some (.int .i64 m.qos) := by unfold World.cell?; simp only; rw [h0']; rfl
  have m3 : w2.cell? ⟨w.heap.size, 3, none⟩ = some (.bool m.ret) := by unfold World.cell?; simp only; rw [h0']; rfl
  have s0 : w2.cell? ⟨w.heap.size + 1, 0, none⟩ = some (.string ⟨#[]⟩) := by unfold World.cell?; simp only; rw [h1']; rfl
  have s1 : w2.cell? ⟨w.heap.size + 1, 1, none⟩ = some (.slice none 0 0) := by unfold World.cell?; simp only; rw [h1']; rfl
  have s2 : w2.cell? ⟨w.heap.size + 1, 2, none⟩ = some (.int .i64 0) := by unfold World.cell?; simp only; rw [h1']; rfl
  have s3 : w2.cell? ⟨w.heap.size + 1, 3, none⟩ = some (.bool false) := by unfold World.cell?; simp only; rw [h1']; rfl
  have f1 := fun j => frozen_of_row w2 (w.heap.size + 1) j _ _ h1'
  have H1 := Lib.hid h1'
  clear h0' h1'
  go_wp2_with fail
  obtain ⟨W, hW⟩ : ∃ W, (((w2.setCell ⟨w.heap.size + 1, 0, none⟩ (.string m.topic)).setCell ⟨w.heap.size + 1, 1, none⟩ (.slice a1 n c1)).setCell ⟨w.heap.size + 1, 2, none⟩ (.int .i64 m.qos)).setCell ⟨w.heap.size + 1, 3, none⟩ (.bool m.ret) = W := ⟨_, rfl⟩
  obtain ⟨g4, b4, s4⟩ := set4 H1.out hW
  have hlow : W0.heap.size ≤ w1.heap.size := HB1.out.size
  have hrow : RowF (fun x => x = W0.heap.size ∧ W0.heap.size < w1.heap.size) W 1 (.slice a1 n c1) n (payCells m.pay) := by
    have hs := HS0.out
    have h2 := HOW.out
    rw [HNN.out] at h2
    refine h2.keep (fun k hk hF => ?_)
    obtain ⟨hF, _⟩ := hF
    subst hF
    rw [← hW, ← HW2.out]
    exact (heap_setCell_other _ _ _ _ (by simp; omega)).trans ((heap_setCell_other _ _ _ _ (by simp; omega)).trans ((heap_setCell_other _ _ _ _ (by simp; omega)).trans ((heap_setCell_other _ _ _ _ (by simp; omega)).trans (heap_setCell_other _ _ _ _ (by simp; omega)))))
  rw [hW]
  clear hW
  have z0 : W.cell? ⟨w.heap.size + 1, 0, none⟩ = some (.string m.topic) := by unfold World.cell?; simp only; rw [g4]; rfl
  have z1 : W.cell? ⟨w.heap.size + 1, 1, none⟩ = some (.slice a1 n c1) := by unfold World.cell?; simp only; rw [g4]; rfl
  have z2 : W.cell? ⟨w.heap.size + 1, 2, none⟩ = some (.int .i64 m.qos) := by unfold World.cell?; simp only; rw [g4]; rfl
  have z3 : W.cell? ⟨w.heap.size + 1, 3, none⟩ = some (.bool m.ret) := by unfold World.cell?; simp only; rw [g4]; rfl
  have hbw : Below w.heap.size w W := by
    have e0 := HB0.out
    have e1 := HB1.out
    have hs := HS0.out
    have e2 : Below w.heap.size w1 w2 := by rw [← HW2.out]; exact (Below.refl _ _).setCell (p := ⟨w.heap.size, 1, none⟩) (Nat.le_refl _) _
    exact ((e0.trans (e1.mono (by omega))).trans e2).trans (b4 _ (by omega))
  clear m0 m1 m2 m3 s0 s1 s2 s3
  refine bodyPost_ret (v := .agg #[.string m.topic, .slice a1 n c1, .int .i64 m.qos, .bool m.ret]) (by simp [results, Tryz.results31, go_sem, z0, z1, z2, z3]) rfl ?_
  refine ⟨_, rfl, ⟨.slice a1 n c1, rfl, ?_⟩, hbw⟩
  rw [HNN.out]
  refine ⟨hrow.1, fun x hx => ?_⟩
  have hx2 := hrow.2 x hx
  have hs := HS0.out
  have e1 : w2.heap.size = w1.heap.size := by rw [← HW2.out]; simp [World.setCell]
  exact ⟨by omega, by omega⟩
end Go.Proofs.YtgnffkahlniehaaGreat

/- Proved here: the contracts of crierref9's Find and All. -/
namespace Go.Proofs.YtgnffkahlniehaaGreat
open Go Go.RowKit Go.Proofs.Gs Go.Proofs.Tri Go.Proofs.Rt Go.Proofs.Tp

/-- One more message, behind a row that grows. -/
theorem msgs_one {X : Nat → Prop} {w w3 : World} {Z : Nat} {v : Value} {xs : List MsgV} {m : MsgV} {pv : Value} (hX : ∀ b, X b → b < Z) (hZ : Z ≤ w.heap.size) (h : Gro Z 36 4 ElMsg (Out X Z w v) w v xs) (hb : Below w.heap.size w w3)
    (hp : RowF (Fresh w w3) w3 1 pv m.pay.length (payCells m.pay)) (hl : xs.length ≤ 2000000) :
    ∃ v' w', (∀ ty, (Builtin.append_ #[43, 43] ty #[v, .slice (some ⟨w3.heap.size, 0, none⟩) 1 1]).run Tryz.prog (w3.alloc (.cells #[.string m.topic, pv, .int .i64 m.qos, .bool m.ret] 36)) = .ok v' w') ∧ Gro Z 36 4 ElMsg (Out X Z w' v') w' v' (xs ++ [m]) ∧ Below Z w w' := by
  obtain ⟨i0, hi, hz0, hz1, hz2⟩ := info_parts infoMsg
  obtain ⟨v', w', h1, h2, h3, _⟩ := gro_one eltMsg (P := Tryz.prog) (t := 43) i0 _ 56 Tryz.underlying43 hi hz0 hz1 hz2 rfl (by decide) hX hZ h hb (a := m) (cs := [.string m.topic, pv, .int .i64 m.qos, .bool m.ret]) ⟨pv, rfl, hp.mono (fresh_out h hZ)⟩ (by unfold maxLen; omega) (by omega)
  exact ⟨v', w', h1, h2, h3⟩
/-- A row that has grown, as it is handed out. -/
theorem msgs_done {w wr : World} {v : Value} {ms : List MsgV} (h : Gro w.heap.size 36 4 ElMsg (Out (fun _ => False) w.heap.size wr v) wr v ms) : MsgsAt (Fresh w wr) wr v ms :=
  reads_msgs (h.reads eltMsg (fun b hb => by rcases hb with hb | hb; exact hb.elim; exact ⟨hb.1, hb.2.1⟩)) (fun b e => h.bound e)

set_option maxHeartbeats 4000000 in
set_option maxRecDepth 100000 in
theorem rlFind_any {F : Nat → Prop} {w : World} {mb : Nat} {B : Ents} (h : Lis F w mb B) (f : ByteArray) (hf : f.size ≤ 1000000000) (hB : ∀ e ∈ B, e.2.topic.size ≤ 1000000000 ∧ e.2.pay.length ≤ 1000000000) (hlen : B.length ≤ 1000000) :
    Calls Tryz.prog 17 #[.pointer (some ⟨mb, 0, none⟩), .string f] w fun e w' => ∃ v, e = .returned v ∧ MsgsAt (Fresh w w') w' v (vals (B.filter (fun e => matchT f e.2.topic))) ∧ Below w.heap.size w w' := by
  rw [vals_filter (fun m => matchT f m.topic)]
  obtain ⟨v, c0, hm⟩ := h.c0
  obtain ⟨K, hK⟩ : ∃ K, B.length = K := ⟨_, rfl⟩
  have HK := Lib.hid hK
  have hvl := (vals_length : (vals B).length = B.length)
  obtain ⟨a, cap, rfl, hcap, hmax⟩ := hm.slice
  rw [hvl, hK] at c0 hcap hm
  have HM := Lib.hid hm
  have HC := Lib.hid c0
  have HBS := Lib.hid hB
  rw [hK] at hlen
  clear h hm hB hK hvl c0
  go_enter Tryz.func17, Tryz.ntmps17
  go_wp2_with fail
  go_loopg [5, 6] K (fun g v5 i6 wr => ∃ i : Nat, i + g = K ∧ i6 = .int .i64 (i : Nat) ∧ Gro w.heap.size 36 4 ElMsg (Out (fun _ => False) w.heap.size wr v5) wr v5 (((vals B).take i).filter (fun m => matchT f m.topic)) ∧ Below w.heap.size w wr)
  case atStart => exact ⟨0, by omega, rfl, Gro.start eltMsg (fun _ hb => hb.elim), Below.refl _ _⟩
  case round =>
    obtain ⟨i, hig, rfl, hg, hb⟩ := hrel
    obtain ⟨a5, c5, rfl⟩ := hg.slice
    obtain ⟨n5, hn5⟩ : ∃ n5, (((vals B).take i).filter (fun m => matchT f m.topic)).length = n5 := ⟨_, rfl⟩
    have hn5' : n5 ≤ K := by
      rw [← hn5, ← HK.out, ← (vals_length : (vals B).length = B.length)]
      exact Nat.le_trans (List.length_filter_le ..) (by rw [List.length_take]; exact Nat.min_le_right ..)
    rw [hn5] at hg ⊢
    have HN5 := Lib.hid hn5
    have HB := Lib.hid hb
    have HG := Lib.hid hg
    have c0 := cell_below hb HC.out
    clear hb hg hn5
    cases gk with
    | zero =>
      obtain rfl : i = K := by omega
      have hd : decide ((i : Int) < (i : Int)) = false := decide_eq_false (by omega)
      have hres := msgs_done HG.out
      rw [List.take_of_length_le (by rw [vals_length, HK.out]; exact Nat.le_refl _)] at hres
      have HRES := Lib.hid hres
      clear hres
      go_wp2_with fail
      go_ret
      exact ⟨_, rfl, HRES.out, HB.out⟩
    | succ gk =>
      have hd : decide ((i : Int) < (K : Int)) = true := decide_eq_true (by omega)
      have hq1 : (0 : Int) ≤ (i : Int) := by omega
      have hq2 : (i : Int) < (K : Int) := by omega
      obtain ⟨m, hmm⟩ : ∃ m, (vals B)[i]? = some m := ⟨_, List.getElem?_eq_getElem (by rw [vals_length, HK.out]; omega)⟩
      have hM := HM.out.keep (Same.below HB.out)
      obtain ⟨fb, fo, rfl⟩ : ∃ fb fo, a = some ⟨fb, fo, none⟩ := by
        obtain ⟨b, o, c, e, _⟩ := MsgsAt.some HM.out (by rw [vals_length, HK.out]; omega)
        injection e with e1 e2 e3
        exact ⟨b, o, e1⟩
      obtain ⟨pv, k0, k1, k2, k3, hv⟩ := hM.one hmm
      have hms : m.topic.size ≤ 1000000000 ∧ m.pay.length ≤ 1000000000 := by
        obtain ⟨e, he, rfl⟩ := List.mem_map.1 (List.mem_of_getElem? hmm)
        exact HBS.out e he
      have hst := filter_step (q := fun m => matchT f m.topic) hmm
      have HST := Lib.hid hst
      have HV := Lib.hid hv
      clear hM hmm hv hst
      obtain ⟨q, hq⟩ : ∃ q, matchT f m.topic = q := ⟨_, rfl⟩
      have HQ := Lib.hid hq
      clear hq
      go_wp2_with fail
      refine (rfMatch_any f m.topic _ hf hms.1).mono ?_
      rintro e w2 ⟨rfl, hb2⟩
      rw [HQ.out]
      have hbx := HB.out.trans (hb2.mono HB.out.size)
      have HX := Lib.hid hbx
      have HB2 := Lib.hid hb2
      have hg2 := HG.out.move eltMsg (fun _ hb => hb.elim) HB.out.size hb2
      have HG2 := Lib.hid hg2
      cases q with
      | false =>
        clear hbx hb2 hg2 c0 k0 k1 k2 k3
        go_wp2_with fail
        go_roundg gk
        case measure => omega
        case rel =>
          refine ⟨i + 1, by omega, by go_num, ?_, HX.out⟩
          rw [HST.out, HQ.out, if_neg (by simp), List.append_nil]
          exact HG2.out
      | true =>
        have c0' := cell_below hb2 c0
        have k0' := cell_below hb2 k0
        have k1' := cell_below hb2 k1
        have k2' := cell_below hb2 k2
        have k3' := cell_below hb2 k3
        rw [← Nat.add_assoc] at k1' k2' k3'
        have hv2 : MsgVal F w2 (.agg #[.string m.topic, pv, .int .i64 m.qos, .bool m.ret]) m := by
          obtain ⟨pv', e, hp⟩ := HV.out
          exact ⟨pv', e, hp.keep (Same.below hb2)⟩
        have HV2 := Lib.hid hv2
        obtain ⟨ap, np, cp, rfl⟩ : ∃ ap np cp, pv = .slice ap np cp := by
          obtain ⟨pv', e, ⟨⟨_, ap, cp, e2, _⟩, _⟩⟩ := HV.out
          have e3 : pv = pv' := by simpa using e
          exact ⟨ap, _, cp, e3.trans e2⟩
        clear hbx hb2 hg2 c0 k0 k1 k2 k3 hv2
        go_wp2_with fail
        refine (copyMsg_any HV2.out hms.2).mono ?_
        rintro e w3 ⟨v', rfl, hv3, hb3⟩
        obtain ⟨pv3, rfl, hp3⟩ := hv3
        obtain ⟨v6, w6, hrun, hg6, hb6⟩ := msgs_one (fun _ hb => hb.elim) HX.out.size HG2.out hb3 hp3 (by have := HN5.out; omega)
        obtain ⟨a3, n3, c3, rfl⟩ : ∃ a3 n3 c3, pv3 = .slice a3 n3 c3 := by
          obtain ⟨⟨_, a3, c3, e2, _⟩, _⟩ := hp3
          exact ⟨a3, _, c3, e2⟩
        obtain ⟨a6, c6, rfl⟩ := hg6.slice
        obtain ⟨n6, hn6⟩ : ∃ n6, (((vals B).take i).filter (fun m => matchT f m.topic) ++ [m]).length = n6 := ⟨_, rfl⟩
        rw [hn6] at hrun hg6
        have HG6 := Lib.hid hg6
        have HB6 := Lib.hid (HX.out.trans hb6)
        clear hb3 hp3 hg6 hb6
        go_wp2_with (at_builtin; refine Lib.wpList_append_run _ rfl _ _ _ _ rfl _ _ rfl rfl _ _ (hrun _) ?_)
        go_roundg gk
        case measure => omega
        case rel =>
          refine ⟨i + 1, by omega, by go_num, ?_, HB6.out⟩
          rw [HST.out, HQ.out, if_pos rfl]
          exact HG6.out

set_option maxHeartbeats 4000000 in
set_option maxRecDepth 100000 in
theorem rlAll_any {F : Nat → Prop} {w : World} {mb : Nat} {B : Ents} (h : Lis F w mb B) (hB : ∀ e ∈ B, e.2.pay.length ≤ 1000000000) (hlen : B.length ≤ 1000000) :
    Calls Tryz.prog 21 #[.pointer (some ⟨mb, 0, none⟩)] w fun e w' => ∃ v, e = .returned v ∧ MsgsAt (Fresh w w') w' v (vals B) ∧ Below w.heap.size w w' := by
  obtain ⟨v, c0, hm⟩ := h.c0
  obtain ⟨K, hK⟩ : ∃ K, B.length = K := ⟨_, rfl⟩
  have HK := Lib.hid hK
  have hvl := (vals_length : (vals B).length = B.length)
  obtain ⟨a, cap, rfl, hcap, hmax⟩ := hm.slice
  rw [hvl, hK] at c0 hcap hm
  have HM := Lib.hid hm
  have HC := Lib.hid c0
  have HBS := Lib.hid hB
  rw [hK] at hlen
  clear h hm hB hK hvl c0
  go_enter Tryz.func21, Tryz.ntmps21
  go_wp2_with fail
  go_loopg [3, 4] K (fun g v5 i6 wr => ∃ i : Nat, i + g = K ∧ i6 = .int .i64 (i : Nat) ∧ Gro w.heap.size 36 4 ElMsg (Out (fun _ => False) w.heap.size wr v5) wr v5 ((vals B).take i) ∧ Below w.heap.size w wr)
  case atStart => exact ⟨0, by omega, rfl, Gro.start eltMsg (fun _ hb => hb.elim), Below.refl _ _⟩
  case round =>
    obtain ⟨i, hig, rfl, hg, hb⟩ := hrel
    obtain ⟨a5, c5, rfl⟩ := hg.slice
    have hn5 : ((vals B).take i).length = i := by rw [List.length_take, vals_length, HK.out]; omega
    rw [hn5] at hg ⊢
    have HN5 := Lib.hid hn5
    have HB := Lib.hid hb
    have HG := Lib.hid hg
    have c0 := cell_below hb HC.out
    clear hb hg hn5
    cases gk with
    | zero =>
      obtain rfl : i = K := by omega
      have hd : decide ((i : Int) < (i : Int)) = false := decide_eq_false (by omega)
      have hres := msgs_done HG.out
      rw [List.take_of_length_le (by rw [vals_length, HK.out]; exact Nat.le_refl _)] at hres
      have HRES := Lib.hid hres
      clear hres
      go_wp2_with fail
      go_ret
      exact ⟨_, rfl, HRES.out, HB.out⟩
    | succ gk =>
      have hd : decide ((i : Int) < (K : Int)) = true := decide_eq_true (by omega)
      have hq1 : (0 : Int) ≤ (i : Int) := by omega
      have hq2 : (i : Int) < (K : Int) := by omega
      obtain ⟨m, hmm⟩ : ∃ m, (vals B)[i]? = some m := ⟨_, List.getElem?_eq_getElem (by rw [vals_length, HK.out]; omega)⟩
      have hM := HM.out.keep (Same.below HB.out)
      obtain ⟨fb, fo, rfl⟩ : ∃ fb fo, a = some ⟨fb, fo, none⟩ := by
        obtain ⟨b, o, c, e, _⟩ := MsgsAt.some HM.out (by rw [vals_length, HK.out]; omega)
        injection e with e1 e2 e3
        exact ⟨b, o, e1⟩
      obtain ⟨pv, k0, k1, k2, k3, hv⟩ := hM.one hmm
      rw [← Nat.add_assoc] at k1 k2 k3
      have hms : m.pay.length ≤ 1000000000 := by
        obtain ⟨e, he, rfl⟩ := List.mem_map.1 (List.mem_of_getElem? hmm)
        exact HBS.out e he
      have HST := Lib.hid hmm
      have HV := Lib.hid hv
      obtain ⟨ap, np, cp, rfl⟩ : ∃ ap np cp, pv = .slice ap np cp := by
        obtain ⟨pv', e, ⟨⟨_, ap, cp, e2, _⟩, _⟩⟩ := HV.out
        have e3 : pv = pv' := by simpa using e
        exact ⟨ap, _, cp, e3.trans e2⟩
      clear hM hmm hv
      go_wp2_with fail
      refine (copyMsg_any HV.out hms).mono ?_
      rintro e w3 ⟨v', rfl, hv3, hb3⟩
      obtain ⟨pv3, rfl, hp3⟩ := hv3
      obtain ⟨v6, w6, hrun, hg6, hb6⟩ := msgs_one (fun _ hb => hb.elim) HB.out.size HG.out hb3 hp3 (by have := HN5.out; omega)
      obtain ⟨a3, n3, c3, rfl⟩ : ∃ a3 n3 c3, pv3 = .slice a3 n3 c3 := by
        obtain ⟨⟨_, a3, c3, e2, _⟩, _⟩ := hp3
        exact ⟨a3, _, c3, e2⟩
      obtain ⟨a6, c6, rfl⟩ := hg6.slice
      obtain ⟨n6, hn6⟩ : ∃ n6, ((vals B).take i ++ [m]).length = n6 := ⟨_, rfl⟩
      rw [hn6] at hrun hg6
      have HG6 := Lib.hid hg6
      have HB6 := Lib.hid (HB.out.trans hb6)
      clear hb3 hp3 hg6 hb6
      go_wp2_with (at_builtin; refine Lib.wpList_append_run _ rfl _ _ _ _ rfl _ _ rfl rfl _ _ (hrun _) ?_)
      go_roundg gk
      case measure => omega
      case rel =>
        refine ⟨i + 1, by omega, by go_num, ?_, HB6.out⟩
        rw [List.take_add_one, HST.out]
        exact HG6.out
end Go.Proofs.YtgnffkahlniehaaGreat

/- Proved here: the contracts of crierref9's Put (of a message that is taken) and Drop. -/
namespace Go.Proofs.YtgnffkahlniehaaGreat
open Go Go.RowKit Go.Proofs.Gs Go.Proofs.Tri Go.Proofs.Rt Go.Proofs.Tp

theorem msgs_many {X : Nat → Prop} {w : World} {Z : Nat} {v v2 : Value} {xs ys : List MsgV} (hX : ∀ b, X b → b < Z) (hZ : Z ≤ w.heap.size) (h : Gro Z 36 4 ElMsg (Out X Z w v) w v xs) (h2 : Reads 4 ElMsg X w v2 ys) (hl : xs.length + ys.length ≤ 2000000) :
    ∃ v' w', (∀ ty, (Builtin.append_ #[43, 43] ty #[v, v2]).run Tryz.prog w = .ok v' w') ∧ Gro Z 36 4 ElMsg (Out X Z w' v') w' v' (xs ++ ys) ∧ Below Z w w' := by
  obtain ⟨i0, hi, hz0, hz1, hz2⟩ := info_parts infoMsg
  exact gro_many eltMsg (P := Tryz.prog) (t := 43) i0 _ 56 Tryz.underlying43 hi hz0 hz1 hz2 rfl (by decide) hX hZ h (h2.mono eltMsg (fun b hb => .inl hb)) (by unfold maxLen; omega) (by omega)

theorem Lis.turned {F : Nat → Prop} {w w1 W : World} {mb Z : Nat} {B B' : Ents} {v : Value} (h : Lis F w mb B) (hb : Below w.heap.size w w1) (hZ : w.heap.size ≤ Z) (hg : Gro Z 36 4 ElMsg (Out F Z w1 v) w1 v (vals B')) (hk : Keyed B') (hW : w1.setCell ⟨mb, 0, none⟩ v = W) : Lis (Since F w W) W mb B' ∧ w.grownBy W (some mb) := by
  have hlt := h.lt
  have hs := hb.size
  obtain ⟨v0, r0, _⟩ := h.row
  have r1 := (hb.block mb hlt).trans r0
  have hWs : W.heap.size = w1.heap.size := by rw [← hW]; simp [World.setCell]
  have other : ∀ k, k ≠ mb → W.heap[k]? = w1.heap[k]? := fun k hk => by rw [← hW]; exact heap_setCell_other _ _ _ _ hk
  have hno : ¬ Since F w w1 mb := fun hx => by
    rcases hx with hx | hx
    · exact h.out hx
    · omega
  have hm : MsgsAt (Since F w w1) w1 v (vals B') := reads_msgs (hg.reads eltMsg (fun b hb' => by rcases hb' with hb' | hb'; exact .inl hb'; exact .inr ⟨by omega, hb'.2.1⟩)) (fun b e => .inr ⟨by have := (hg.bound e).1; omega, (hg.bound e).2⟩)
  have hform : v = .slice none 0 0 ∨ ∃ g cap, v = .slice (some ⟨g, 0, none⟩) B'.length cap := by
    obtain ⟨css, _, h2⟩ := hg.own
    rcases h2.2 with ⟨e, _⟩ | ⟨g, cap, cur, e, _⟩
    · exact .inl e
    · exact .inr ⟨g, cap, by rw [e, vals_length]⟩
  refine ⟨⟨⟨v, by rw [← hW]; exact heap_setCell_same _ _ _ _ _ _ r1, (hm.keep (fun k _ hk' => other k (fun e => hno (by rw [← e]; exact hk')))).mono (since_more (by omega)), hform⟩, hk, fun hx => ?_, fun x hx => ?_⟩, ⟨by rw [← hW]; exact hb.os, by rw [← hW]; exact hb.tape, by rw [← hW]; exact hb.output, by omega, fun k hk' hne => (other k (fun e => hne (by rw [e]))).trans (hb.block k hk')⟩⟩
  · rcases hx with hx | hx
    · exact h.out hx
    · omega
  · rcases hx with hx | hx
    · have := h.old x hx; omega
    · exact hx.2

set_option maxHeartbeats 400000 in
set_option maxRecDepth 100000 in
theorem rlDrop_any {F : Nat → Prop} {w : World} {mb : Nat} {B : Ents} (h : Lis F w mb B) (s : ByteArray) (hs : s.size ≤ 1000000000) (hB : ∀ e ∈ B, e.2.topic.size ≤ 1000000000) (hlen : B.length ≤ 1000000) :
    Calls Tryz.prog 13 #[.pointer (some ⟨mb, 0, none⟩), .string s] w fun e w' => e = .returned (.bool (get (levels s) B).isSome) ∧ Lis (Since F w w') w' mb (era (levels s) B) ∧ w.grownBy w' (some mb) := by
  have HH := Lib.hid h
  have hpl := rlPlace_any h s hs hB hlen
  have HPL := Lib.hid hpl
  clear hpl h
  obtain ⟨q, hq⟩ : ∃ q, (get (levels s) B).isSome = q := ⟨_, rfl⟩
  have HQ := Lib.hid hq
  go_enter Tryz.func13, Tryz.ntmps13
  go_wp2_with fail
  refine HPL.out.mono ?_
  rintro e w1 ⟨rfl, hb1⟩
  have HB1 := Lib.hid hb1
  rw [HQ.out]
  cases q with
  | false =>
    clear hb1 hq
    go_wp2_with fail
    go_ret
    have hb := HB1.out
    have hl := HH.out.below hb
    obtain ⟨v, r1, r2, r4⟩ := hl.row0
    refine ⟨by rw [HQ.out]; rfl, ?_, ⟨hb.os, hb.tape, hb.output, hb.size, fun k hk _ => hb.block k hk⟩⟩
    rw [era_get_none (by have := HQ.out; cases hg : get (levels s) B; rfl; rw [hg] at this; simp at this)]
    exact ⟨⟨v, r1, r2.mono since_old, r4⟩, hl.keyed, fun hx => by rcases hx with hx | hx; exact HH.out.out hx; have := HH.out.lt; omega, fun x hx => by rcases hx with hx | hx; exact hl.old x hx; exact hx.2⟩
  | true =>
    have hmore := spot_more HH.out.keyed (s := s) hq
    obtain ⟨P, hP⟩ : ∃ P, spotL s B = P := ⟨_, rfl⟩
    have HP := Lib.hid hP
    obtain ⟨K, hK⟩ : ∃ K, B.length = K := ⟨_, rfl⟩
    have HK := Lib.hid hK
    obtain ⟨v, c0, hm⟩ := (HH.out.below hb1).c0
    obtain ⟨fb, fo, cap, rfl, hcap, hmax⟩ := hm.some (by rw [vals_length]; omega)
    have hvl := (vals_length : (vals B).length = B.length)
    rw [hvl, hK] at c0 hcap hm
    rw [hP, hK] at hmore
    rw [hP]
    have hq1 : (P : Int) ≤ (cap : Int) := by omega
    have hq2 : (P : Int) + 1 ≤ (K : Int) := by omega
    have hq0 : (0 : Int) ≤ (P : Int) := by omega
    have HM := Lib.hid hm
    have HCAP := Lib.hid hcap
    have hrd := hm.reads
    have hr1 := hrd.part eltMsg (by decide) (i := 0) (m := P) (by rw [vals_length]; omega)
    rw [List.drop_zero, Nat.zero_mul, Nat.add_zero, Nat.sub_zero] at hr1
    obtain ⟨v2, w2, hrun2, hg2, hb2⟩ := msgs_many (X := F) (Z := w1.heap.size) (fun b hb => (HH.out.below hb1).old b hb) (Nat.le_refl _) (Gro.start eltMsg (fun b hb => (HH.out.below hb1).old b hb)) hr1 (by rw [List.length_take, List.length_nil]; omega)
    rw [List.nil_append] at hg2
    have hr3 : Reads 4 ElMsg F w2 (.slice (if cap = P + 1 then some ⟨fb, fo, none⟩ else some ⟨fb, fo + (P + 1) * 4, none⟩) (K - (P + 1)) (cap - (P + 1))) ((vals B).drop (P + 1)) := by
      have h0 := (hrd.below eltMsg hb2).cut eltMsg (by decide) (i := P + 1) (m := K - (P + 1)) (by rw [vals_length, HK.out]; omega)
      rw [List.take_of_length_le (by rw [List.length_drop, vals_length, HK.out]; exact Nat.le_refl _), Option.map_some, Addr.add_lit] at h0
      exact h0
    have hl2 : ((vals B).take P).length + ((vals B).drop (P + 1)).length ≤ 2000000 := by rw [List.length_take, List.length_drop, vals_length, HK.out]; omega
    obtain ⟨v3, w3, hrun3, hg3, hb3⟩ := msgs_many (X := F) (Z := w1.heap.size) (fun b hb => (HH.out.below hb1).old b hb) hb2.size hg2 hr3 hl2
    rw [← hP, ← vals_era HH.out.keyed HQ.out] at hg3
    obtain ⟨W, hW⟩ : ∃ W, w3.setCell ⟨mb, 0, none⟩ v3 = W := ⟨_, rfl⟩
    have hbx := hb1.trans ((hb2.trans hb3).mono hb1.size)
    obtain ⟨hlis, hgr⟩ := HH.out.turned hbx hb1.size hg3 (HH.out.keyed.era _) hW
    have HL := Lib.hid hlis
    have HGR := Lib.hid hgr
    have c2 := cell_below hb2 c0
    have hlt := (HH.out.below hb1).lt
    obtain ⟨v0, r0, _⟩ := (HH.out.below hb1).row
    have hv0 : v0 = .slice (some ⟨fb, fo, none⟩) K cap := by
      have := c0
      unfold World.cell? at this
      simp only [r0] at this
      simpa using this
    have r3 := (hb3.block mb hlt).trans ((hb2.block mb hlt).trans r0)
    have c3 : w3.cell? ⟨mb, 0, none⟩ = some v0 := by unfold World.cell?; simp only; rw [r3]; rfl
    have f3 := frozen_of_row w3 mb 0 _ _ r3
    subst hv0
    obtain ⟨a2, n2, cc2, rfl⟩ : ∃ a n c, v2 = .slice a n c := by obtain ⟨a, c, e⟩ := hg2.slice; exact ⟨a, _, c, e⟩
    obtain ⟨a3, n3, cc3, rfl⟩ : ∃ a n c, v3 = .slice a n c := by obtain ⟨a, c, e⟩ := hg3.slice; exact ⟨a, _, c, e⟩
    clear hb1 hq hP hK hm hvl hrd hr1 hr3 hg2 hg3 hb2 hb3 hbx hlis hgr hl2 r0 r3
    have hcap0 : ¬ cap = 0 := by omega
    go_upto_region 6 with (at_builtin; refine Lib.wpList_append_run _ rfl _ _ _ _ rfl _ _ rfl rfl _ _ (hrun2 _) ?_)
    clear hrun2 c0
    by_cases hcp : cap = P + 1
    · rw [if_pos hcp] at hrun3
      obtain rfl : K = P + 1 := by omega
      subst hcp
      rw [Nat.sub_self] at hrun3
      go_wp2_with (at_builtin; refine Lib.wpList_append_run _ rfl _ _ _ _ rfl _ _ rfl rfl _ _ (hrun3 _) ?_)
      go_ret
      (try rw [hW])
      exact ⟨by rw [HQ.out]; rfl, HL.out, HGR.out⟩
    · rw [if_neg hcp] at hrun3
      go_wp2_with (at_builtin; refine Lib.wpList_append_run _ rfl _ _ _ _ rfl _ _ rfl rfl _ _ (hrun3 _) ?_)
      go_ret
      (try rw [hW])
      exact ⟨by rw [HQ.out]; rfl, HL.out, HGR.out⟩

set_option maxHeartbeats 1000000 in
set_option maxRecDepth 100000 in
theorem rlPut_walk {F G : Nat → Prop} {w : World} {mb : Nat} {B : Ents} (h : Lis F w mb B) {v : Value} {m : MsgV} (hv : MsgVal G w v m) (hyes : taken m = true) (hs : m.topic.size ≤ 1000000000) (hpay : m.pay.length ≤ 1000000000) (hB : ∀ e ∈ B, e.2.topic.size ≤ 1000000000) (hlen : B.length ≤ 900000)
    {v0 v1 v5 : Value} {q : Bool} {P : Nat} (hc : w.cell? ⟨mb, 0, none⟩ = some v0) (hq : (get (levels m.topic) B).isSome = q) (hP : spotL m.topic B = P)
    (hs1 : ∀ W, (Instr.slice 43 v0 none (some (.int .i64 (P : Nat))) none).run Tryz.prog W = .ok v1 W) (hs5 : ∀ W, (Instr.slice 43 v0 (some (.int .i64 ((P + (if q = true then 1 else 0) : Nat) : Int))) none none).run Tryz.prog W = .ok v5 W)
    (hr1 : ∀ W, Below w.heap.size w W → Reads 4 ElMsg F W v1 ((vals B).take P)) (hr5 : ∀ W, Below w.heap.size w W → Reads 4 ElMsg F W v5 ((vals B).drop (P + if q = true then 1 else 0))) :
    Calls Tryz.prog 11 #[.pointer (some ⟨mb, 0, none⟩), v] w fun e w' => e = .returned (.tuple #[.bool (get (levels m.topic) B).isSome, .int .i64 0]) ∧ Lis (Since F w w') w' mb (putB B m) ∧ w.grownBy w' (some mb) := by
  obtain ⟨⟨hchk, hq0⟩, hq2⟩ : (chk m.topic = 0 ∧ 0 ≤ m.qos) ∧ m.qos ≤ 2 := by simpa [taken] using hyes
  obtain ⟨pv, rfl, hp⟩ := hv
  obtain ⟨ap, np, cp, rfl⟩ : ∃ ap np cp, pv = .slice ap np cp := by
    obtain ⟨⟨_, ap, cp, e2, _⟩, _⟩ := id hp
    exact ⟨ap, _, cp, e2⟩
  obtain ⟨W0, hW0⟩ : ∃ W0, w.alloc (.cells #[.string m.topic, .slice ap np cp, .int .i64 m.qos, .bool m.ret] 36) = W0 := ⟨_, rfl⟩
  have g0 : W0.heap[w.heap.size]? = some (.cells #[.string m.topic, .slice ap np cp, .int .i64 m.qos, .bool m.ret] 36 (0, 0)) := by rw [← hW0]; exact (MapKept.heap_alloc w _).1
  have hb0 : Below w.heap.size w W0 := by rw [← hW0]; exact (Below.refl _ _).alloc (Nat.le_refl _) _
  have hs0 : W0.heap.size = w.heap.size + 1 := by rw [← hW0]; simp
  have HH := Lib.hid h
  have HB := Lib.hid hB
  have HP := Lib.hid hp
  have HB0 := Lib.hid hb0
  have HQ := Lib.hid hq
  have HPP := Lib.hid hP
  have HYES := Lib.hid hyes
  have HR1 := Lib.hid hr1
  have HR5 := Lib.hid hr5
  have HPL := Lib.hid (rlPlace_any (h.below hb0) m.topic hs hB (by omega))
  have y0 := cell4 g0 0 _ rfl
  have y2 := cell4 g0 2 _ rfl
  have d1 : decide (m.qos < 0) = false := decide_eq_false (by omega)
  have d2 : decide (2 < m.qos) = false := decide_eq_false (by omega)
  have hmb : mb < w.heap.size := h.lt
  have hPb : (P : Int) ≤ 1000000 := by
    have h1 : spotL m.topic B ≤ B.length := spot_le (lt := lex ltB) (levels m.topic) B
    rw [hP] at h1
    omega
  clear h hp hq hP hyes hr1 hr5 hb0 hB
  go_enter Tryz.func11, Tryz.ntmps11
  go_wp2_with fail
  (try rw [hW0])
  refine (rfCheck_any m.topic _ hs).mono ?_
  rintro e _ ⟨rfl, rfl⟩
  rw [hchk]
  go_wp2_with fail
  refine HPL.out.mono ?_
  rintro e w1 ⟨rfl, hb1⟩
  rw [HQ.out, HPP.out]
  have hbw1 := HB0.out.trans (hb1.mono HB0.out.size)
  have hold : ∀ b, F b → b < w.heap.size := HH.out.old
  obtain ⟨v2, w2, hrun2, hg2, hb2⟩ := msgs_many (X := F) (Z := w1.heap.size) (w := w1) (fun b hb => by have := hold b hb; have := hbw1.size; omega) (Nat.le_refl _) (Gro.start eltMsg (fun b hb => by have := hold b hb; have := hbw1.size; omega)) (HR1.out w1 hbw1) (by rw [List.length_take, List.length_nil, vals_length]; omega)
  rw [List.nil_append] at hg2
  obtain ⟨a2, n2, cc2, rfl⟩ : ∃ a n c, v2 = .slice a n c := by obtain ⟨a, c, e⟩ := hg2.slice; exact ⟨a, _, c, e⟩
  have c1 : w1.cell? ⟨mb, 0, none⟩ = some v0 := (hbw1.cell hmb).trans hc
  have HB1 := Lib.hid hb1
  have HBW1 := Lib.hid hbw1
  have HB2 := Lib.hid hb2
  have HG2 := Lib.hid hg2
  clear hb1 hbw1 hb2 hg2 y0 y2 d1 d2
  go_upto_region 8 with (at_builtin; refine Lib.wpList_append_run _ rfl _ _ _ _ rfl _ _ rfl rfl _ _ (hrun2 _) ?_)
  have hbw2 : Below w.heap.size w w2 := HBW1.out.trans (HB2.out.mono HBW1.out.size)
  have hs0' : w.heap.size < w1.heap.size := by have := HB1.out.size; omega
  have gw2 : w2.heap[w.heap.size]? = some (.cells #[.string m.topic, .slice ap np cp, .int .i64 m.qos, .bool m.ret] 36 (0, 0)) := (HB2.out.block _ hs0').trans ((HB1.out.block _ (by omega)).trans g0)
  have z0 := cell4 gw2 0 _ rfl
  have z1 := cell4 gw2 1 _ rfl
  have z2 := cell4 gw2 2 _ rfl
  have z3 := cell4 gw2 3 _ rfl
  have hv2 : MsgVal G w2 (.agg #[.string m.topic, .slice ap np cp, .int .i64 m.qos, .bool m.ret]) m := ⟨_, rfl, HP.out.keep (Same.below hbw2)⟩
  have HV2 := Lib.hid hv2
  have HBW2 := Lib.hid hbw2
  clear hbw2 gw2 hv2 hrun2
  go_wp2_with fail
  refine (copyMsg_any HV2.out hpay).mono ?_
  rintro e w3 ⟨v', rfl, hv3, hb3⟩
  obtain ⟨pv3, rfl, hp3⟩ := hv3
  have hXZ : ∀ b, F b → b < w1.heap.size := fun b hb => by have := HH.out.old b hb; omega
  obtain ⟨v6, w6, hrun6, hg6, hb6⟩ := msgs_one hXZ HB2.out.size HG2.out hb3 hp3 (by rw [List.length_take, vals_length]; omega)
  obtain ⟨a3, n3, c3, rfl⟩ : ∃ a3 n3 c3, pv3 = .slice a3 n3 c3 := by
    obtain ⟨⟨_, a3, c3, e2, _⟩, _⟩ := hp3
    exact ⟨a3, _, c3, e2⟩
  obtain ⟨a6, n6, c6, rfl⟩ : ∃ a n c, v6 = .slice a n c := by obtain ⟨a, c, e⟩ := hg6.slice; exact ⟨a, _, c, e⟩
  have hbw6 : Below w.heap.size w w6 := HBW2.out.trans (hb6.mono (by omega))
  obtain ⟨v7, w7, hrun7, hg7, hb7⟩ := msgs_many hXZ (by have := HB2.out.size; have := hb6.size; omega) hg6 (HR5.out w6 hbw6) (by simp only [List.length_append, List.length_take, List.length_drop, vals_length, List.length_cons, List.length_nil]; omega)
  obtain ⟨a7, n7, c7, rfl⟩ : ∃ a n c, v7 = .slice a n c := by obtain ⟨a, c, e⟩ := hg7.slice; exact ⟨a, _, c, e⟩
  have hbw7 : Below w.heap.size w w7 := hbw6.trans (hb7.mono (by omega))
  have hvals : (vals B).take P ++ [m] ++ (vals B).drop (P + if q = true then 1 else 0) = vals (putB B m) := by
    rw [vals_put HH.out.keyed HYES.out, HQ.out, HPP.out, List.append_assoc]
    rfl
  rw [hvals] at hg7
  obtain ⟨W, hW⟩ : ∃ W, w7.setCell ⟨mb, 0, none⟩ (.slice a7 n7 c7) = W := ⟨_, rfl⟩
  obtain ⟨hlis, hgr⟩ := HH.out.turned hbw7 (by omega) hg7 (HH.out.keyed.put m) hW
  have HL := Lib.hid hlis
  have HGR := Lib.hid hgr
  obtain ⟨v0', r0, _⟩ := HH.out.row
  have r7 := (hbw7.block mb hmb).trans r0
  have c6' : w6.cell? ⟨mb, 0, none⟩ = some v0 := (hbw6.cell hmb).trans hc
  have c7' : w7.cell? ⟨mb, 0, none⟩ = some v0' := by unfold World.cell?; simp only; rw [r7]; rfl
  have f7 := frozen_of_row w7 mb 0 _ _ r7
  clear hb3 hp3 hg6 hb6 hbw6 hg7 hb7 hbw7 hvals hlis hgr r7 r0 z0 z1 z2 z3
  go_upto_region 9 with (at_builtin; refine Lib.wpList_append_run _ rfl _ _ _ _ rfl _ _ rfl rfl _ _ (hrun6 _) ?_)
  clear hrun6
  cases q with
  | false =>
    simp only [Bool.false_eq_true, if_false, Nat.add_zero] at hs5
    go_wp2_with (at_builtin; refine Lib.wpList_append_run _ rfl _ _ _ _ rfl _ _ rfl rfl _ _ (hrun7 _) ?_)
    go_ret2
    (try rw [hW])
    exact ⟨by rw [HQ.out]; rfl, HL.out, HGR.out⟩
  | true =>
    have hs6 : ∀ W, (Instr.slice 43 v0 (some (.int .i64 ((P : Int) + 1))) none none).run Tryz.prog W = .ok v5 W := fun W => hs5 W
    clear hs5
    go_wp2_with (at_builtin; refine Lib.wpList_append_run _ rfl _ _ _ _ rfl _ _ rfl rfl _ _ (hrun7 _) ?_)
    go_ret2
    (try rw [hW])
    exact ⟨by rw [HQ.out]; rfl, HL.out, HGR.out⟩

set_option maxRecDepth 100000 in
theorem cut_high (W : World) (a : Option Addr) (n cap P : Nat) (h : (P : Int) ≤ (cap : Int)) : (Instr.slice 43 (.slice a n cap) none (some (.int .i64 (P : Nat))) none).run Tryz.prog W = .ok (.slice (if cap = 0 then a else a.map (·.add (0 * 4))) P cap) W := by
  have h0 : (0 : Int) ≤ (P : Int) := by omega
  go_simp
set_option maxRecDepth 100000 in
theorem cut_low (W : World) (a : Option Addr) (n cap i : Nat) (h : (i : Int) ≤ (n : Int)) : (Instr.slice 43 (.slice a n cap) (some (.int .i64 (i : Nat))) none none).run Tryz.prog W = .ok (.slice (if cap = i then a else a.map (·.add (i * 4))) (n - i) (cap - i)) W := by
  have h0 : (0 : Int) ≤ (i : Int) := by omega
  go_simp
set_option maxHeartbeats 400000 in
set_option maxRecDepth 100000 in
theorem rlPut_any {F G : Nat → Prop} {w : World} {mb : Nat} {B : Ents} (h : Lis F w mb B) {v : Value} {m : MsgV} (hv : MsgVal G w v m) (hyes : taken m = true) (hs : m.topic.size ≤ 1000000000) (hpay : m.pay.length ≤ 1000000000) (hB : ∀ e ∈ B, e.2.topic.size ≤ 1000000000) (hlen : B.length ≤ 900000) :
    Calls Tryz.prog 11 #[.pointer (some ⟨mb, 0, none⟩), v] w fun e w' => e = .returned (.tuple #[.bool (get (levels m.topic) B).isSome, .int .i64 0]) ∧ Lis (Since F w w') w' mb (putB B m) ∧ w.grownBy w' (some mb) := by
  obtain ⟨v0, r0, hm, hform⟩ := h.row0
  have hc : w.cell? ⟨mb, 0, none⟩ = some v0 := by unfold World.cell?; simp only; rw [r0]; rfl
  obtain ⟨q, hq⟩ : ∃ q, (get (levels m.topic) B).isSome = q := ⟨_, rfl⟩
  obtain ⟨P, hP⟩ : ∃ P, spotL m.topic B = P := ⟨_, rfl⟩
  have h1 : spotL m.topic B ≤ B.length := spot_le (lt := lex ltB) (levels m.topic) B
  have hle : P + (if q = true then 1 else 0) ≤ B.length := by
    cases q with
    | false => simp; omega
    | true => have := spot_more h.keyed hq; simp; omega
  rw [hP] at h1
  obtain ⟨i, hi⟩ : ∃ i, P + (if q = true then 1 else 0) = i := ⟨_, rfl⟩
  rw [hi] at hle
  have hrd := fun W (hb : Below w.heap.size w W) => (hm.reads).below eltMsg hb
  have hu := Tryz.underlying43
  rcases hform with rfl | ⟨g, cap, rfl⟩
  · have hB0 : B.length = 0 := by
      obtain ⟨a, c, e, _⟩ := hm.slice
      injection e with _ e2 _
      rw [← (vals_length : (vals B).length = B.length)]
      exact e2.symm
    refine rlPut_walk h hv hyes hs hpay hB hlen (v1 := .slice none 0 0) (v5 := .slice none 0 0) hc hq hP (fun W => ?_) (fun W => ?_) (fun W hb => ?_) (fun W hb => ?_)
    · rw [cut_high W none 0 0 P (by omega)]
      obtain rfl : P = 0 := by omega
      rfl
    · rw [hi, cut_low W none 0 0 i (by omega)]
      obtain rfl : i = 0 := by omega
      rfl
    · rw [List.eq_nil_of_length_eq_zero (l := (vals B).take P) (by rw [List.length_take, vals_length]; omega)]
      exact reads_empty (by omega)
    · rw [List.eq_nil_of_length_eq_zero (l := (vals B).drop _) (by rw [List.length_drop, vals_length]; omega)]
      exact reads_empty (by omega)
  · obtain ⟨hcap, hmax⟩ : B.length ≤ cap ∧ cap ≤ 9223372036854775807 := by
      obtain ⟨a, c, e, hcap, hmax⟩ := hm.slice
      injection e with _ _ e3
      subst e3
      rw [vals_length] at hcap
      exact ⟨hcap, hmax⟩
    refine rlPut_walk h hv hyes hs hpay hB hlen (v1 := .slice (some ⟨g, 0, none⟩) P cap) (v5 := .slice (if cap = i then some ⟨g, 0, none⟩ else some ⟨g, 0 + i * 4, none⟩) (B.length - i) (cap - i)) hc hq hP (fun W => ?_) (fun W => ?_) (fun W hb => ?_) (fun W hb => ?_)
    · rw [cut_high W _ _ cap P (by omega), Option.map_some, Addr.add_lit]
      simp
    · rw [hi, cut_low W _ _ cap i (by omega), Option.map_some, Addr.add_lit]
    · have := (hrd W hb).part eltMsg (by decide) (i := 0) (m := P) (by rw [vals_length]; omega)
      rw [List.drop_zero, Nat.zero_mul, Nat.add_zero, Nat.sub_zero] at this
      exact this
    · rw [hi]
      have h0 := (hrd W hb).cut eltMsg (by decide) (i := i) (m := B.length - i) (by rw [vals_length]; omega)
      rw [List.take_of_length_le (by rw [List.length_drop, vals_length]; exact Nat.le_refl _), Option.map_some, Addr.add_lit] at h0
      exact h0
end Go.Proofs.YtgnffkahlniehaaGreat

/- Proved here: the contracts of crierref9's New and Len. -/
namespace Go.Proofs.YtgnffkahlniehaaGreat
open Go Go.RowKit Go.Proofs.Gs Go.Proofs.Tri Go.Proofs.Rt Go.Proofs.Tp

set_option maxHeartbeats 1000000 in
set_option maxRecDepth 100000 in
theorem rlLen_any {F : Nat → Prop} {w : World} {mb : Nat} {B : Ents} (h : Lis F w mb B) :
    Calls Tryz.prog 42 #[.pointer (some ⟨mb, 0, none⟩)] w fun e w' => e = .returned (.int .i64 (B.length : Nat)) ∧ w' = w := by
  obtain ⟨v, c0, hm⟩ := h.c0
  obtain ⟨a, cap, rfl, hcap, hmax⟩ := hm.slice
  rw [(vals_length : (vals B).length = B.length)] at c0
  clear h hm
  go_enter Tryz.func42, Tryz.ntmps42
  go_wp2_with fail
  go_ret
  exact ⟨rfl, rfl⟩

set_option maxHeartbeats 1000000 in
set_option maxRecDepth 100000 in
theorem rlNew_any (w : World) :
    Calls Tryz.prog 6 #[] w fun e w' => e = .returned (.pointer (some ⟨w.heap.size, 0, none⟩)) ∧ Lis (fun _ => False) w' w.heap.size [] ∧ Below w.heap.size w w' := by
  go_enter Tryz.func6, Tryz.ntmps6
  go_wp2_with fail
  go_ret
  have g0 := (MapKept.heap_alloc w (.cells #[.slice none 0 0] 64)).1
  exact ⟨rfl, ⟨⟨.slice none 0 0, g0, ⟨[], rfl, ⟨⟨rfl, none, 0, rfl, Nat.le_refl _, Nat.zero_le _, .inl rfl⟩, fun x hx => by simp [Value.ownBlock] at hx⟩, fun i m pv h1 => by simp [vals] at h1⟩, .inl rfl⟩, Keyed.nil, id, fun x hx => hx.elim⟩, (Below.refl _ w).alloc (Nat.le_refl _) _⟩
end Go.Proofs.YtgnffkahlniehaaGreat

/- Proved here: the contract of crierlaw9's place (a number from 0 to n - 1 out of any number). -/
namespace Go.Proofs.YtgnffkahlniehaaGreat
open Go Go.RowKit Go.Proofs.Gs Go.Proofs.Tri Go.Proofs.Rt Go.Proofs.Tp

theorem ret_nat {x : Int} (h : 0 ≤ x) : Ending.returned (.int .i64 x) = .returned (.int .i64 (x.toNat : Nat)) := by rw [Int.toNat_of_nonneg h]

theorem lwPlace_any (k n : Int) (w : World) (hn : 0 < n) (hn2 : n ≤ 4000000000) (_hk1 : -9223372036854775808 ≤ k) (_hk2 : k ≤ 9223372036854775807) :
    Calls Tryz.prog 4 #[.int .i64 k, .int .i64 n] w fun e w' => (∃ r : Nat, e = .returned (.int .i64 (r : Nat)) ∧ (r : Int) < n) ∧ w = w' := by
  have h1 := Int.tmod_lt_of_pos k hn
  have h2 : -n < k.tmod n := Int.lt_tmod_of_pos k hn
  go_enter Tryz.func4, Tryz.ntmps4
  go_wp2_with fail
  · have h3 : k.tmod n < 0 := by assumption
    go_ret
    exact ⟨⟨(k.tmod n + n).toNat, ret_nat (by omega), by omega⟩, rfl⟩
  · have h3 : 0 ≤ k.tmod n := by assumption
    go_ret
    exact ⟨⟨(k.tmod n).toNat, ret_nat (by omega), by omega⟩, rfl⟩
end Go.Proofs.YtgnffkahlniehaaGreat

/- Proved here: the contract of crierlaw9's turner.next. -/
namespace Go.Proofs.YtgnffkahlniehaaGreat
open Go Go.RowKit Go.Proofs.Gs Go.Proofs.Tri Go.Proofs.Rt Go.Proofs.Tp

theorem bits_and_i64 (a b : Nat) (ha : a < 9223372036854775808) (hb : b < 9223372036854775808) : bits .and .i64 (a : Int) (b : Int) = ((a &&& b : Nat) : Int) := by
  have hx : a &&& b ≤ b := Nat.and_le_right
  have h1 : (BitVec.ofInt 64 (a : Int)).toNat = a := by
    rw [BitVec.ofInt_natCast, BitVec.toNat_ofNat]; exact Nat.mod_eq_of_lt (by omega)
  have h2 : (BitVec.ofInt 64 (b : Int)).toNat = b := by
    rw [BitVec.ofInt_natCast, BitVec.toNat_ofNat]; exact Nat.mod_eq_of_lt (by omega)
  show IntKind.i64.wrap ((BitVec.ofInt 64 (a : Int) &&& BitVec.ofInt 64 (b : Int)).toNat : Int) = _
  rw [BitVec.toNat_and, h1, h2, IntKind.wrap_i64]
  omega
theorem next_mask {x : Int} (h0 : 0 ≤ x) (h1 : x < 9223372036854775808) : 0 ≤ bits .and .i64 x 2147483647 ∧ bits .and .i64 x 2147483647 < 2147483648 := by
  obtain ⟨n, rfl⟩ := Int.eq_ofNat_of_zero_le h0
  have h := bits_and_i64 n 2147483647 (by omega) (by omega)
  have hx : n &&& 2147483647 ≤ 2147483647 := Nat.and_le_right
  have e : bits .and .i64 (n : Int) 2147483647 = ((n &&& 2147483647 : Nat) : Int) := h
  rw [e]
  omega

set_option maxHeartbeats 1000000 in
theorem next_any {w : World} {xb : Nat} {x n : Int} (hx : w.heap[xb]? = some (.cells #[.int .i64 x] 25 (0, 0))) (h0 : 0 ≤ x) (h1 : x < 2147483648) (hn : 0 < n) (hn2 : n ≤ 4000000000) :
    Calls Tryz.prog 9 #[.pointer (some ⟨xb, 0, none⟩), .int .i64 n] w fun e w' => ∃ (r : Nat) (y : Int), e = .returned (.int .i64 (r : Nat)) ∧ (r : Int) < n ∧ 0 ≤ y ∧ y < 2147483648 ∧ w' = w.setCell ⟨xb, 0, none⟩ (.int .i64 y) := by
  have c0 : w.cell? ⟨xb, 0, none⟩ = some (.int .i64 x) := by unfold World.cell?; simp only; rw [hx]; rfl
  have f0 := frozen_of_row w xb 0 _ _ hx
  go_enter Tryz.func9, Tryz.ntmps9
  go_upto_region 2 with fail
  obtain ⟨hy0, hy1⟩ := next_mask (x := x * 1103515 + 12345) (by omega) (by omega)
  obtain ⟨y, hy⟩ : ∃ y, bits BinOp.and IntKind.i64 (x * 1103515 + 12345) 2147483647 = y := ⟨_, rfl⟩
  rw [hy] at hy0 hy1 ⊢
  obtain ⟨W, hW⟩ : ∃ W, w.setCell ⟨xb, 0, none⟩ (.int .i64 y) = W := ⟨_, rfl⟩
  have gW : W.heap[xb]? = some (.cells #[.int .i64 y] 25 (0, 0)) := by rw [← hW]; exact heap_setCell_same _ _ _ _ _ _ hx
  have cW : W.cell? ⟨xb, 0, none⟩ = some (.int .i64 y) := by unfold World.cell?; simp only; rw [gW]; rfl
  have h4 := Int.emod_lt_of_pos (y / 64) hn
  have h5 := Int.emod_nonneg (y / 64) (show n ≠ 0 by omega)
  rw [hW]
  clear hx c0 f0 hy
  go_wp2_with fail
  go_ret
  exact ⟨(y / 64 % n).toNat, y, ret_nat h5, by omega, hy0, hy1, hW.symm⟩
end Go.Proofs.YtgnffkahlniehaaGreat

/- Plain: the texts of topicOf. No program in sight. -/
namespace Go.Proofs.Rt
open Go Go.Proofs.Tp

def t3 : Nat → ByteArray
  | 0 => ⟨#[97]⟩
  | 1 => ⟨#[98]⟩
  | _ => ⟨#[99]⟩
def t4 : Nat → ByteArray
  | 0 => ⟨#[97]⟩
  | 1 => ⟨#[98]⟩
  | 2 => ⟨#[99]⟩
  | _ => ⟨#[]⟩
def tailT : Nat → Nat → ByteArray → ByteArray
  | 0, _, s => s
  | f + 1, n, s => if n = 0 then s else tailT f (n / 4) ((s ++ ⟨#[47]⟩) ++ t4 (n % 4))
def topT (n : Nat) : ByteArray := tailT 4 (n / 3) (t3 (n % 3))
theorem topT_all : (List.range 90).all (fun n => decide (chk (topT n) = 0) && decide ((topT n).size ≤ 20)) = true := by kernel_rfl
theorem topT_ok {n : Nat} (h : n < 90) : chk (topT n) = 0 ∧ (topT n).size ≤ 20 := by
  have := List.all_eq_true.1 topT_all n (List.mem_range.2 h)
  simpa using this
end Go.Proofs.Rt

/- Proved here: the contract of crierlaw9's topicOf. -/
namespace Go.Proofs.YtgnffkahlniehaaGreat
open Go Go.RowKit Go.Proofs.Gs Go.Proofs.Tri Go.Proofs.Rt Go.Proofs.Tp

theorem tailT_step (f n : Nat) (s : ByteArray) (h : ¬ n = 0) : tailT (f + 1) n s = tailT f (n / 4) ((s ++ ⟨#[47]⟩) ++ t4 (n % 4)) := by rw [tailT, if_neg h]
theorem tailT_zero : ∀ (f : Nat) (s : ByteArray), tailT f 0 s = s
  | 0, _ => rfl
  | f + 1, _ => by rw [tailT, if_pos rfl]

theorem t3_size (n : Nat) : (t3 n).size = 1 := by unfold t3; split <;> rfl
theorem t4_size (n : Nat) : (t4 n).size ≤ 1 := by unfold t4; split <;> decide
set_option maxHeartbeats 1000000 in
set_option maxRecDepth 100000 in
theorem topicOf_any (n : Nat) (w : World) (hn : n < 90) : Calls Tryz.prog 8 #[.int .i64 (n : Nat)] w fun e w' => e = .returned (.string (topT n)) ∧ Below w.heap.size w w' := by
  obtain ⟨m, hm⟩ : ∃ m, n / 3 = m := ⟨_, rfl⟩
  obtain ⟨r, hr⟩ : ∃ r, n % 3 = r := ⟨_, rfl⟩
  have h1 : ((n : Int) / 3) = (m : Nat) := by omega
  have h2 : ((n : Int) % 3) = (r : Nat) := by omega
  have hr3 : r < 3 := by omega
  have hm30 : m < 30 := by omega
  have hres : topT n = tailT 4 m (t3 r) := by unfold topT; rw [hm, hr]
  rw [hres]
  obtain ⟨W0, hW0⟩ : ∃ W0, w.alloc (.cells #[.string ⟨#[97]⟩, .string ⟨#[98]⟩, .string ⟨#[99]⟩] 9) = W0 := ⟨_, rfl⟩
  have g0 : W0.heap[w.heap.size]? = some (.cells #[.string ⟨#[97]⟩, .string ⟨#[98]⟩, .string ⟨#[99]⟩] 9 (0, 0)) := by rw [← hW0]; exact (MapKept.heap_alloc w _).1
  have hb0 : Below w.heap.size w W0 := by rw [← hW0]; exact (Below.refl _ _).alloc (Nat.le_refl _) _
  have y0 : W0.cell? ⟨w.heap.size, r, none⟩ = some (.string (t3 r)) := by
    unfold World.cell?
    simp only
    rw [g0]
    match r, hr3 with
    | 0, _ => rfl
    | 1, _ => rfl
    | 2, _ => rfl
  clear hm hr hres g0
  go_enter Tryz.func8, Tryz.ntmps8
  go_wp2_with fail
  (try rw [hW0])
  go_loopg [0, 3] 4 (fun g v0 v3 wr => ∃ (a : Nat) (s : ByteArray), v0 = .int .i64 (a : Nat) ∧ v3 = .string s ∧ a < 4 ^ g ∧ a ≤ 1000 ∧ tailT g a s = tailT 4 m (t3 r) ∧ s.size + 2 * g ≤ 20 ∧ Below w.heap.size w wr)
  case atStart => exact ⟨m, t3 r, rfl, rfl, by omega, by omega, rfl, by rw [t3_size]; omega, hb0⟩
  case round =>
    obtain ⟨a, s, rfl, rfl, hag, ha9, hts, hsz, hb⟩ := hrel
    have HB := Lib.hid hb
    have HTS := Lib.hid hts
    clear hb hts y0 h1 h2
    by_cases ha : a = 0
    · subst ha
      have hd : decide ((0 : Int) < ((0 : Nat) : Int)) = false := rfl
      go_wp2_with fail
      go_ret
      refine ⟨?_, HB.out⟩
      rw [← HTS.out, tailT_zero]
      rfl
    · cases gk with
      | zero => simp at hag; omega
      | succ gk =>
        have hd : decide ((0 : Int) < (a : Int)) = true := decide_eq_true (by omega)
        obtain ⟨b, hb⟩ : ∃ b, a / 4 = b := ⟨_, rfl⟩
        obtain ⟨c, hc⟩ : ∃ c, a % 4 = c := ⟨_, rfl⟩
        have h1 : ((a : Int) / 4) = (b : Nat) := by omega
        have h2 : ((a : Int) % 4) = (c : Nat) := by omega
        have hc4 : c < 4 := by omega
        have hb9 : b ≤ 1000 := by omega
        have hstep := tailT_step gk a s ha
        rw [hb, hc] at hstep
        have hbg : b < 4 ^ gk := by rw [Nat.pow_succ] at hag; omega
        have HST := Lib.hid hstep
        obtain ⟨W1, hW1⟩ : ∃ W1, wr.alloc (.cells #[.string ⟨#[97]⟩, .string ⟨#[98]⟩, .string ⟨#[99]⟩, .string ⟨#[]⟩] 9) = W1 := ⟨_, rfl⟩
        have g1 : W1.heap[wr.heap.size]? = some (.cells #[.string ⟨#[97]⟩, .string ⟨#[98]⟩, .string ⟨#[99]⟩, .string ⟨#[]⟩] 9 (0, 0)) := by rw [← hW1]; exact (MapKept.heap_alloc wr _).1
        have hb1 : Below w.heap.size w W1 := by rw [← hW1]; exact HB.out.alloc HB.out.size _
        have y1 : W1.cell? ⟨wr.heap.size, c, none⟩ = some (.string (t4 c)) := by
          unfold World.cell?
          simp only
          rw [g1]
          match c, hc4 with
          | 0, _ => rfl
          | 1, _ => rfl
          | 2, _ => rfl
          | 3, _ => rfl
        have z1 : s.size ≤ 20 := by omega
        have z2 : (s ++ ⟨#[47]⟩ : ByteArray).size = s.size + 1 := by rw [ByteArray.size_append]; rfl
        have z3 := t4_size c
        have z4 : (s ++ ⟨#[47]⟩ : ByteArray).size ≤ 21 := by omega
        have Z2 := Lib.hid z2
        clear hstep hb hc g1 z2
        go_wp2_with fail
        (try rw [hW1])
        go_roundg gk
        case measure => omega
        case rel => exact ⟨b, _, by go_num, rfl, hbg, hb9, by rw [← HST.out]; exact HTS.out, by rw [ByteArray.size_append, Z2.out]; omega, hb1⟩
end Go.Proofs.YtgnffkahlniehaaGreat
