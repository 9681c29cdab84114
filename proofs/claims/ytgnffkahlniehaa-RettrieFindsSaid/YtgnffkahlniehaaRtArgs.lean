/- Proved here: a list of messages that came in, opened: each message's four cells. The arguments read again as they did. -/
import Derived.Test.YtgnffkahlniehaaRows
import Derived.Test.YtgnffkahlniehaaRtMsgs
import Derived.Deep.Slices
import Derived.Deep.Strs
import Derived.ChangeOld
import Derived.Carry
import Derived.WalkKit
import Derived.ProofKit
import Derived.SizedLaws
namespace Go.Proofs.Ytgnffkahlniehaa
open Go Go.RowKit Go.WideShapes Go.ChangeShapes Go.Deep Go.Proofs.Gs Go.Proofs.Rt

theorem cell_lt {w : World} {a : Addr} {v : Value} (h : w.cell? a = some v) : a.block < w.heap.size := by
  unfold World.cell? at h
  split at h
  · rename_i hb
    exact (Array.getElem?_eq_some_iff.1 hb).1
  · cases h

theorem add_at' (b off i : Nat) : (⟨b, off, none⟩ : Addr).add i = ⟨b, off + i, none⟩ := by
  unfold Addr.add
  by_cases h : i = 0
  · subst h; simp
  · simp [h]

theorem weights_mem {H : Type} {P : Program} {e : TypeId} : ∀ {l : List (DataW H)} {d : DataW H}, d ∈ l → ∀ n ∈ d.weights P e, n ∈ DataW.weightsAll P e l
  | d' :: r, d, hd, n, hn => by
    simp only [DataW.weightsAll, List.mem_append]
    rcases List.mem_cons.1 hd with rfl | h
    · exact Or.inl hn
    · exact Or.inr (weights_mem h n hn)

section
variable {H : Type} {enc : TypeId × Value → H}

/-- A payload that came in. -/
theorem open_pay {W : World} {n : Nat} {cs : List Value} {x : DataW H × List MemPlace} (h : DataW.trod enc Try.prog W 0 (fun _ => true) true n 28 cs = some x) :
    ∃ (pv : Value) (l : List Int), cs = [pv] ∧ RowF (fun _ => True) W 1 pv l.length (payCells l) ∧ ((∀ k ∈ x.1.weights Try.prog 28, k ≤ reachBytes) → l.length ≤ reachBytes) := by
  have hc1 : Try.prog.cellsOf 5 = 1 := by kernel_rfl
  have hb1 : Try.prog.bytesOf 5 = 1 := by kernel_rfl
  rcases open_ints Try.underlying28 Try.underlying5 hc1 h with ⟨rfl, rfl⟩ | ⟨a, len, cap, zs, rfl, hb, hl, hm, hz, rfl, hcell, hwf⟩
  · exact ⟨_, [], rfl, ⟨RowAt.nil W 1, fun _ _ => trivial⟩, fun _ => Nat.zero_le _⟩
  · simp only [if_true] at hz
    have hlen : (zs.take len).length = len := by rw [List.length_take]; omega
    refine ⟨_, zs.take len, rfl, ⟨⟨by simp [payCells], some a, cap, by rw [hlen], by rw [hlen]; exact hl, hm, ?_⟩, fun _ _ => trivial⟩, fun hw => ?_⟩
    · by_cases h0 : len = 0
      · exact .inl (by rw [hlen]; exact h0)
      · have hspot : a.spot = none := by
          have g0 := hcell 0 (by omega)
          simpa [Addr.add] using World.cell?_spot g0
        obtain ⟨b, off, spot⟩ := a
        simp only at hspot
        subst hspot
        refine .inr ⟨b, off, rfl, ?_, fun j u hu => ?_⟩
        · have g0 := hcell 0 (by omega)
          rw [add_at'] at g0
          exact cell_lt g0
        · unfold payCells at hu
          rw [List.getElem?_map, List.getElem?_take] at hu
          split at hu
          · rename_i hj
            have hj2 : j < zs.length := by omega
            have g := hcell j hj2
            rw [add_at'] at g
            rw [List.getElem?_eq_getElem hj2] at hu
            rw [g, List.getD_eq_getElem?_getD, List.getElem?_eq_getElem hj2]
            simpa using hu
          · simp at hu
    · have h1 := hw ((lits IntKind.u8 (zs.take len)).length + (lits IntKind.u8 (zs.drop len)).length) (by
        simp only [DataW.weights, Try.underlying28, hb1, Nat.mul_one]
        exact List.mem_cons_self)
      rw [hlen]
      simp [lits] at h1
      omega

set_option maxRecDepth 100000 in
/-- A message that came in. -/
theorem open_msg {W : World} {n : Nat} {cs : List Value} {x : DataW H × List MemPlace} (h : DataW.trod enc Try.prog W 0 (fun _ => true) true n 30 cs = some x) :
    ∃ (m : MsgV) (pv : Value), cs = msgCells m pv ∧ RowF (fun _ => True) W 1 pv m.pay.length (payCells m.pay) ∧ ((∀ k ∈ x.1.weights Try.prog 30, k ≤ reachBytes) → m.topic.size ≤ reachBytes ∧ m.pay.length ≤ reachBytes) := by
  obtain ⟨xs, m, _, rfl, hl, hxl, hf⟩ := DataW.trod_struct Try.underlying30 h
  have hc4 : Try.prog.cellsOf 30 = 4 := by kernel_rfl
  rw [hc4] at hl
  match cs, hl with
  | [c0, c1, c2, c3], _ =>
    have f0 := hf 0 { name := "Topic", type := 9, offset := 0, embedded := false, tag := "", pkgPath := "", byteOffset := 0 } rfl
    have f1 := hf 1 { name := "Payload", type := 28, offset := 1, embedded := false, tag := "", pkgPath := "", byteOffset := 16 } rfl
    have f2 := hf 2 { name := "QoS", type := 3, offset := 2, embedded := false, tag := "", pkgPath := "", byteOffset := 40 } rfl
    have f3 := hf 3 { name := "Retain", type := 4, offset := 3, embedded := false, tag := "", pkgPath := "", byteOffset := 48 } rfl
    simp at hxl
    match xs, hxl with
    | [x0, x1, x2, x3], _ =>
      have k3 : Try.prog.cellsOf 3 = 1 := by kernel_rfl
      have k4 : Try.prog.cellsOf 4 = 1 := by kernel_rfl
      have k9 : Try.prog.cellsOf 9 = 1 := by kernel_rfl
      have k28 : Try.prog.cellsOf 28 = 1 := by kernel_rfl
      simp only [k3, k4, k9, k28] at f0 f1 f2 f3
      obtain ⟨s, e0, d0, ws⟩ := DataW.trod_string Try.underlying9 f0
      obtain ⟨pv, l, e1, hrow, hw1⟩ := open_pay f1
      obtain ⟨q, e2, _, _⟩ := DataW.trod_int Try.underlying3 f2
      obtain ⟨r, e3, _⟩ := DataW.trod_bool Try.underlying4 f3
      obtain rfl : c0 = .string s := List.head_eq_of_cons_eq (show c0 :: [] = _ :: [] from e0)
      obtain rfl : c1 = pv := List.head_eq_of_cons_eq (show c1 :: [] = _ :: [] from e1)
      obtain rfl : c2 = .int .i64 q := List.head_eq_of_cons_eq (show c2 :: [] = _ :: [] from e2)
      obtain rfl : c3 = .bool r := List.head_eq_of_cons_eq (show c3 :: [] = _ :: [] from e3)
      refine ⟨⟨s, l, q, r⟩, c1, rfl, hrow, fun hw => ?_⟩
      have hws : ∀ k ∈ DataW.weightsEach Try.prog [9, 28, 3, 4] [x0.1, x1.1, x2.1, x3.1], k ≤ reachBytes := fun k hk => hw k (by
        simp only [DataW.weights, Try.underlying30, List.map_cons, List.map_nil]
        exact hk)
      simp only [DataW.weightsEach, List.mem_append] at hws
      refine ⟨?_, hw1 (fun k hk => hws k (.inr (.inl hk)))⟩
      have hd : x0.1 = .lit (.string s.data.toList) := by
        have : some x0 = some (DataW.lit (.string s.data.toList), []) := by simpa using d0
        injection this with this
        rw [this]
      have := hws s.data.toList.length (.inl (by rw [hd]; simp [DataW.weights]))
      simpa using this

theorem choose_lt' {α : Type} [Inhabited α] {n : Nat} {P : Nat → α → Prop} (h : ∀ i, i < n → ∃ x, P i x) : ∃ f : Nat → α, ∀ i, i < n → P i (f i) := by
  refine ⟨fun i => if h' : i < n then (h i h').choose else default, fun i hi => ?_⟩
  simp only [dif_pos hi]
  exact (h i hi).choose_spec

instance : Inhabited MsgV := ⟨⟨⟨#[]⟩, [], 0, false⟩⟩
instance : Inhabited Value := ⟨undef⟩

set_option maxRecDepth 100000 in
/-- A list of messages that came in. -/
theorem open_msgs {W : World} {v : Value} {d : DataW H} {ps : List MemPlace} (hv : ∃ a len cap, v = .slice a len cap) (h : DataW.Trod enc Try.prog W 0 (fun _ => true) true 22 v d ps) :
    ∃ l : List MsgV, MsgsAt (fun _ => True) W v l ∧ ((∀ k ∈ d.weights Try.prog 22, k ≤ reachBytes) → l.length ≤ reachBytes ∧ ∀ m ∈ l, m.topic.size ≤ reachBytes ∧ m.pay.length ≤ reachBytes) := by
  obtain ⟨a, len, cap, rfl⟩ := hv
  obtain ⟨n, h⟩ := h
  have hc4 : Try.prog.cellsOf 30 = 4 := by kernel_rfl
  have hb56 : Try.prog.bytesOf 30 = 56 := by kernel_rfl
  rcases open_slice Try.underlying22 h with ⟨hcs, _⟩ | ⟨a', len', cap', m, n', D, Pl, hcs, hb, hl, hm, hmm, hx, hall⟩
  · simp [Value.cells] at hcs
    obtain ⟨rfl, rfl, rfl⟩ := hcs
    exact ⟨[], ⟨[], rfl, ⟨RowAt.nil W 4, fun _ _ => trivial⟩, fun i m pv h _ => by simp at h⟩, fun _ => ⟨Nat.zero_le _, by simp⟩⟩
  · simp [Value.cells] at hcs
    obtain ⟨rfl, rfl, rfl⟩ := hcs
    simp only [if_true] at hmm
    rw [hc4] at hall
    have key : ∀ i, i < len → ∃ y : MsgV × Value, (∀ j, j < 4 → W.cell? ((a'.add (i * 4)).add j) = (msgCells y.1 y.2)[j]?) ∧ RowF (fun _ => True) W 1 y.2 y.1.pay.length (payCells y.1.pay) ∧ ((∀ k ∈ (D i).weights Try.prog 30, k ≤ reachBytes) → y.1.topic.size ≤ reachBytes ∧ y.1.pay.length ≤ reachBytes) := by
      intro i hi
      obtain ⟨cs', h1, h2⟩ := hall i (by omega)
      obtain ⟨_, hlen, hcell⟩ := World.cells?_some h1
      obtain ⟨mm, pv, rfl, hr, hw⟩ := open_msg h2
      exact ⟨(mm, pv), hcell, hr, hw⟩
    obtain ⟨f, hf⟩ := choose_lt' key
    have hms : ((List.range len).map fun i => (f i).1).length = len := by simp
    have hget : ∀ i m, ((List.range len).map fun i => (f i).1)[i]? = some m → i < len ∧ m = (f i).1 := fun i m hh => by
      have hi : i < len := by have := (List.getElem?_eq_some_iff.1 hh).1; simpa using this
      rw [List.getElem?_map, List.getElem?_range hi] at hh
      exact ⟨hi, by simpa using hh.symm⟩
    have hgetp : ∀ i (pv : Value), ((List.range len).map fun i => (f i).2)[i]? = some pv → pv = (f i).2 := fun i pv hh => by
      have hi : i < len := by have := (List.getElem?_eq_some_iff.1 hh).1; simpa using this
      rw [List.getElem?_map, List.getElem?_range hi] at hh
      simpa using hh.symm
    refine ⟨(List.range len).map fun i => (f i).1, ⟨(List.range len).map fun i => (f i).2, by simp, ⟨⟨?_, some a', cap, by rw [hms], by rw [hms]; exact hl, hm, ?_⟩, fun _ _ => trivial⟩, fun i m pv h1 h2 => ?_⟩, fun hw => ⟨?_, fun m hmem => ?_⟩⟩
    · rw [msgRow_length (by simp)]
    · by_cases h0 : len = 0
      · exact .inl (by rw [hms]; exact h0)
      · have hspot : a'.spot = none := by
          have g0 := (hf 0 (by omega)).1 0 (by omega)
          simpa [Addr.add] using World.cell?_spot (show W.cell? _ = some (.string (f 0).1.topic) from g0)
        obtain ⟨b, off, spot⟩ := a'
        simp only at hspot
        subst hspot
        refine .inr ⟨b, off, rfl, ?_, fun j u hu => ?_⟩
        · have g0 := (hf 0 (by omega)).1 0 (by omega)
          rw [add_at', add_at'] at g0
          exact cell_lt (show W.cell? _ = some (.string (f 0).1.topic) from g0)
        · have hj : j < len * 4 := by have := (List.getElem?_eq_some_iff.1 hu).1; rw [msgRow_length (by simp)] at this; simpa using this
          have hq : j / 4 < len := by omega
          have g := (hf (j / 4) hq).1 (j % 4) (by omega)
          rw [add_at', add_at'] at g
          have e : off + j / 4 * 4 + j % 4 = off + j := by omega
          rw [e] at g
          rw [g]
          have hx4 : ∃ u', (msgCells (f (j / 4)).1 (f (j / 4)).2)[j % 4]? = some u' := by
            have : j % 4 < 4 := by omega
            exact ⟨_, List.getElem?_eq_getElem (by simp [msgCells]; omega)⟩
          obtain ⟨u', hu'⟩ := hx4
          have h3 := msgRow_get (ms := (List.range len).map fun i => (f i).1) (pvs := (List.range len).map fun i => (f i).2) (i := j / 4) (o := j % 4) (m := (f (j / 4)).1) (pv := (f (j / 4)).2) (u := u') (by rw [List.getElem?_map, List.getElem?_range hq]; rfl) (by rw [List.getElem?_map, List.getElem?_range hq]; rfl) hu'
          have e2 : j / 4 * 4 + j % 4 = j := by omega
          rw [e2, hu] at h3
          injection h3 with h3
          rw [hu', h3]
    · obtain ⟨hi, rfl⟩ := hget i m h1
      rw [hgetp i pv h2]
      exact (hf i hi).2.1
    · have h1 : (len + (cap - len)) * 56 ≤ reachBytes := by
        have hd : d = _ := congrArg Prod.fst hx
        have := hw ((len + (cap - len)) * 56) (by
          rw [hd]
          simp only [DataW.weights, Try.underlying22, hb56, List.length_map, List.length_range, hmm]
          exact List.mem_cons_self)
        exact this
      rw [hms]; omega
    · obtain ⟨i, hi, rfl⟩ := List.mem_map.1 hmem
      have hi' : i < len := by simpa using hi
      refine (hf i hi').2.2 (fun k hk => hw k ?_)
      have hd : d = _ := congrArg Prod.fst hx
      rw [hd]
      simp only [DataW.weights, Try.underlying22]
      refine List.mem_cons_of_mem _ (List.mem_append_left _ (weights_mem (List.mem_map.2 ⟨i, by simpa using hi', rfl⟩) k hk))

/-- An argument reads behind the call as it did ahead of it. -/
theorem again {W W' : World} {t : TypeId} {v : Value} {d : DataW H} {ps : List MemPlace} (hr : Try.prog.readableRec t = true) (hrow : t < Try.prog.types.size)
    (h : DataW.Trod enc Try.prog W 0 (fun _ => true) true t v d ps) (hb : Below W.heap.size W W') : DataW.Trod enc Try.prog W' 0 (fun b => decide (b < W.heap.size)) true t v d ps := by
  have hl : laidOutB Try.prog = true := by kernel_rfl
  exact Below.trod hl hr hrow h hb (fun x hx => by obtain ⟨n, hn⟩ := h; exact DataW.trod_lt n _ _ _ hn x hx)

theorem msgs_readable : Try.prog.readableRec 22 = true := by kernel_rfl
theorem msgs_row : 22 < Try.prog.types.size := by decide +kernel
end
end Go.Proofs.Ytgnffkahlniehaa
