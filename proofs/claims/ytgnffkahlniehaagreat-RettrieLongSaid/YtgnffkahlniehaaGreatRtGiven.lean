/- Proved here: given, all that an iterator gives. -/
import Derived.Test.YtgnffkahlniehaaGreatRtGivenA
namespace Go.Proofs.YtgnffkahlniehaaGreat
open Go Go.RowKit Go.Proofs.Gs Go.Proofs.Tri Go.Proofs.Rt Go.Proofs.Tp

theorem cells_new (w : World) (cs : Array Value) (t : TypeId) : ∀ j u, cs.toList[j]? = some u → (w.alloc (.cells cs t)).cell? ((⟨w.heap.size, 0, none⟩ : Addr).add j) = some u := by
  intro j u hj
  have hh := (MapKept.heap_alloc w (.cells cs t)).1
  have e : (⟨w.heap.size, 0, none⟩ : Addr).add j = ⟨w.heap.size, j, none⟩ := by
    unfold Addr.add
    by_cases hj0 : j = 0
    · simp [hj0]
    · simp [hj0]
  rw [e]
  unfold World.cell?
  simp only
  rw [hh]
  simpa using hj

/-- One more, laid behind the others. -/
theorem given_app {w0 W1 w1 : World} {Z bw bn bl : Nat} {X : Nat → Prop} {pre : List MsgV} {m : MsgV} {pv v v' : Value} {pvs : List Value} {o : Obj}
    (hl : w0.heap.size ≤ bw ∧ w0.heap.size ≤ bl ∧ bw < Z ∧ bn < Z ∧ bl < Z ∧ bw ≠ bl ∧ bn ≠ bl ∧ bn ≠ bw) (hZ : Z ≤ W1.heap.size)
    (hw : Boxed W1 bw 4 (.bool true)) (hnum : Boxed W1 bn 3 (.int .i64 0)) (hb : Boxed W1 bl 43 v) (ht : Taken Z X pre W1 v pvs) (hold : ∀ x, X x → x < W1.heap.size ∧ x ≠ bw ∧ x ≠ bl) (hB : Below w0.heap.size w0 W1)
    (hp : RowF (fun x => Z ≤ x ∧ x < W1.heap.size ∧ some x ≠ v.ownBlock) W1 1 pv m.pay.length (payCells m.pay)) (hat : v'.ownBlock = v.ownBlock ∨ v'.ownBlock = some (W1.alloc o).heap.size)
    (hgrow : (W1.alloc o).grownBy w1 v.ownBlock) (hown : w1.ownsRow Z 36 4 v' (pre.length + 1) (msgRow pre pvs ++ msgCells m pv)) :
    Boxed w1 bl 43 v ∧ GivAt w0 Z bw bn bl X (pre ++ [m]) (w1.setCell ⟨bl, 0, none⟩ v') ∧ Keeps X W1 (w1.setCell ⟨bl, 0, none⟩ v') ∧ KeepsOthers W1 (w1.setCell ⟨bl, 0, none⟩ v') := by
  obtain ⟨l1, l2, l3, l4, l5, l6, l7, l8⟩ := hl
  have hrow : ∀ b, v.ownBlock = some b → Z ≤ b ∧ b < W1.heap.size := fun b e => owned_lt ht.own e
  have hne : ∀ b, b < Z → some b ≠ v.ownBlock := fun b hb e => by have := hrow b e.symm; omega
  have hal : W1.grownBy (W1.alloc o) none := World.grownBy_alloc W1 o none
  have bx : ∀ {B t u}, Boxed W1 B t u → B < Z → Boxed w1 B t u := fun {B t u} hB hlt => (hB.alloc o).kept hgrow (hne B hlt)
  have hb1 := bx hb l5
  have hs1 : W1.heap.size + 1 ≤ w1.heap.size := by have := hgrow.size; simp at this; omega
  have hsz : (w1.setCell ⟨bl, 0, none⟩ v').heap.size = w1.heap.size := by simp [World.setCell]
  have hset : ∀ k, k ≠ bl → (w1.setCell ⟨bl, 0, none⟩ v').heap[k]? = w1.heap[k]? := fun k hk => Below.heap_setCell w1 ⟨bl, 0, none⟩ v' k hk
  -- what lay in W1 out of the row and the box lies there
  have hkeep : ∀ k, k < W1.heap.size → some k ≠ v.ownBlock → k ≠ bl → (w1.setCell ⟨bl, 0, none⟩ v').heap[k]? = W1.heap[k]? := fun k hk h1 h2 => by
    rw [hset k h2, hgrow.block k (by simp; omega) h1]
    exact Below.heap_alloc W1 o k hk
  have hKX : Keeps X W1 (w1.setCell ⟨bl, 0, none⟩ v') := ⟨by omega, fun k hk hx => hkeep k hk (ht.apart k hx) (hold k hx).2.2⟩
  have hob : ∀ b, v'.ownBlock = some b → Z ≤ b ∧ b ≠ bl := fun b e => by have := owned_lt hown e; exact ⟨this.1, by omega⟩
  have hownW : (w1.setCell ⟨bl, 0, none⟩ v').ownsRow Z 36 4 v' (pre.length + 1) (msgRow pre pvs ++ msgCells m pv) := by
    obtain ⟨h0, h⟩ := hown
    refine ⟨h0, ?_⟩
    rcases h with h | ⟨g, cap, cur, h1, h2, h3, h4⟩
    · exact .inl h
    · exact .inr ⟨g, cap, cur, h1, h2, (hset g (by omega)).trans h3, h4⟩
  -- a payload's row
  have hpay : ∀ (pv : Value) (m : MsgV), RowF (fun x => Z ≤ x ∧ x < W1.heap.size ∧ some x ≠ v.ownBlock) W1 1 pv m.pay.length (payCells m.pay) → RowF (fun x => Z ≤ x ∧ x < (w1.setCell ⟨bl, 0, none⟩ v').heap.size ∧ some x ≠ v'.ownBlock) (w1.setCell ⟨bl, 0, none⟩ v') 1 pv m.pay.length (payCells m.pay) := fun pv m h => by
    have h1 := h.keep (w' := w1.setCell ⟨bl, 0, none⟩ v') (fun k hk hF => hkeep k hk hF.2.2 (by omega))
    refine h1.mono (fun b hb => ⟨hb.1, by omega, fun e' => ?_⟩)
    rcases hat with hat | hat
    · exact hb.2.2 (e'.trans hat)
    · rw [hat] at e'
      injection e' with e'
      simp at e'
      omega
  have hother : KeepsOthers W1 (w1.setCell ⟨bl, 0, none⟩ v') := by
    refine ((KeepsOthers.alloc W1 o).trans (KeepsOthers.of_grownBy hgrow fun j oj ej hj => ?_)).trans (KeepsOthers.setCell _ _ _)
    rcases ht.own.2 with ⟨rfl, _⟩ | ⟨g, cap, cur, rfl, _, hgb, _⟩
    · simp [Value.ownBlock] at ej
    · obtain rfl : g = j := by simpa [Value.ownBlock] using ej
      rw [Below.heap_alloc W1 o g (Array.getElem?_eq_some_iff.1 hgb).1, hgb] at hj
      cases hj; rfl
  have hbelow : Below w0.heap.size w0 (w1.setCell ⟨bl, 0, none⟩ v') :=
    ((hB.alloc hB.size o).grown hgrow (by have := hB.size; simp; omega) (fun k e => by have := hrow k e; omega)).setCell (p := ⟨bl, 0, none⟩) l2 v'
  have hset2 : ∀ {B t u}, Boxed w1 B t u → B ≠ bl → Boxed (w1.setCell ⟨bl, 0, none⟩ v') B t u := fun {B t u} h hn => (hset B hn).trans h
  refine ⟨hb1, ⟨hset2 (bx hw l3) l6, hset2 (bx hnum l4) l7, ⟨v', pvs ++ [pv], hb1.set v', by simp [ht.len], ?_, ?_, fun x hx e => ?_⟩, fun x hx => ?_, ⟨l1, l2, l3, l4, l5, l6, l7, l8, by omega⟩, hbelow⟩, hKX, hother⟩
  · rw [msgRow_app ht.len, List.length_append]
    exact hownW
  · intro i m' pv' h1 h2
    by_cases hi : i < pre.length
    · rw [List.getElem?_append_left hi] at h1
      rw [List.getElem?_append_left (by rw [ht.len]; exact hi)] at h2
      exact hpay pv' m' (ht.pays i m' pv' h1 h2)
    · rw [List.getElem?_append_right (by omega)] at h1
      rw [List.getElem?_append_right (by rw [ht.len]; omega), ht.len] at h2
      have hi0 : i - pre.length = 0 := by have := (List.getElem?_eq_some_iff.1 h1).1; simp at this; omega
      rw [hi0] at h1 h2
      injection h1 with h1
      injection h2 with h2
      subst h1; subst h2
      exact hpay pv m hp
  · rcases hat with hat | hat
    · exact ht.apart x hx (e.trans hat)
    · rw [hat] at e
      injection e with e
      have := (hold x hx).1
      simp at e
      omega
  · have := hold x hx
    exact ⟨by omega, this.2⟩

set_option maxHeartbeats 2000000 in
set_option maxRecDepth 100000 in
theorem given1_any {w0 W0 W : World} {Z bw bn bl : Nat} {X : Nat → Prop} {pre : List MsgV} {m : MsgV} {v : Value} (G0 : GivAt w0 Z bw bn bl X pre W0) (hb : Below W0.heap.size W0 W) (hv : MsgVal (Fresh W0 W) W v m) (hlen : pre.length < 2000000) :
    Calls Tryz.prog 33 (#[v] ++ #[.pointer (some ⟨bw, 0, none⟩), .pointer (some ⟨bn, 0, none⟩), .pointer (some ⟨bl, 0, none⟩)]) W fun e W' => e = .returned (.bool true) ∧ GivAt w0 Z bw bn bl X (pre ++ [m]) W' ∧ Keeps X W W' ∧ KeepsOthers W W' := by
  obtain ⟨i0, hi, hz0, hz1, hz2⟩ := info_parts infoMsg
  obtain ⟨pv, rfl, hrow⟩ := hv
  have G := G0.more hb (X' := X) (fun x hx => .inl hx)
  obtain ⟨v0, pvs, hbl, ht⟩ := G.out
  obtain ⟨a1, c1, rfl⟩ := owns_slice ht.own
  obtain ⟨ap, cp, rfl⟩ : ∃ ap cp, pv = .slice ap m.pay.length cp := by obtain ⟨⟨_, a, c, e, _⟩, _⟩ := hrow; exact ⟨a, c, e⟩
  obtain ⟨W1, hW1⟩ : ∃ W1, W.alloc (.cells #[.string m.topic, .slice ap m.pay.length cp, .int .i64 m.qos, .bool m.ret] 36) = W1 := ⟨_, rfl⟩
  have gm : W1.heap[W.heap.size]? = some (.cells #[.string m.topic, .slice ap m.pay.length cp, .int .i64 m.qos, .bool m.ret] 36 (0, 0)) := by rw [← hW1]; exact (MapKept.heap_alloc W _).1
  have hb1 : Below W.heap.size W W1 := by rw [← hW1]; exact (Below.refl _ _).alloc (Nat.le_refl _) _
  have hs1 : W1.heap.size = W.heap.size + 1 := by rw [← hW1]; simp
  have hl := G.low
  have hold := G.old
  have b1 : Boxed W1 bw 4 (.bool true) := (hb1.block bw G.well.lt).trans G.well
  have b2 : Boxed W1 bn 3 (.int .i64 0) := (hb1.block bn G.num.lt).trans G.num
  have b3 : Boxed W1 bl 43 (.slice a1 pre.length c1) := (hb1.block bl hbl.lt).trans hbl
  have k1 := b1.cell
  have f1 := b1.frozen
  have k2 := b2.cell
  obtain ⟨W2, hW2⟩ : ∃ W2, W1.setCell ⟨bw, 0, none⟩ (.bool true) = W2 := ⟨_, rfl⟩
  have hset : ∀ k, k ≠ bw → W2.heap[k]? = W1.heap[k]? := fun k hk => by rw [← hW2]; exact Below.heap_setCell W1 ⟨bw, 0, none⟩ _ k hk
  have hs2 : W2.heap.size = W1.heap.size := by rw [← hW2]; simp [World.setCell]
  have c1' : Boxed W2 bw 4 (.bool true) := by rw [← hW2]; exact b1.set _
  have c2' : Boxed W2 bn 3 (.int .i64 0) := (hset bn hl.2.2.2.2.2.2.2.1).trans b2
  have c3' : Boxed W2 bl 43 (.slice a1 pre.length c1) := (hset bl (Ne.symm hl.2.2.2.2.2.1)).trans b3
  have gm2 : W2.heap[W.heap.size]? = some (.cells #[.string m.topic, .slice ap m.pay.length cp, .int .i64 m.qos, .bool m.ret] 36 (0, 0)) := (hset _ (by omega)).trans gm
  have hsame2 : ∀ k, k < W.heap.size → k ≠ bw → W2.heap[k]? = W.heap[k]? := fun k hk hne => (hset k hne).trans (hb1.block k hk)
  have hX2 : Keeps X W W2 := ⟨by omega, fun k hk hx => hsame2 k hk (hold k hx).2.1⟩
  have ho2 : KeepsOthers W W2 := by rw [← hW2]; exact (others_below hb1).trans (KeepsOthers.setCell _ _ _)
  have hbel : Below w0.heap.size w0 W2 := by rw [← hW2]; exact (G.below.trans (hb1.mono (G.below.size))).setCell (p := ⟨bw, 0, none⟩) hl.1 _
  have ht2 : Taken Z X pre W2 (.slice a1 pre.length c1) pvs := by
    refine ⟨ht.len, ?_, fun i m pv h1 h2 => ?_, ht.apart⟩
    · obtain ⟨h0, h⟩ := ht.own
      refine ⟨h0, ?_⟩
      rcases h with h | ⟨g, cap, cur, h1, h2, h3, h4⟩
      · exact .inl h
      · exact .inr ⟨g, cap, cur, h1, h2, (hsame2 g (Array.getElem?_eq_some_iff.1 h3).1 (by omega)).trans h3, h4⟩
    · exact ((ht.pays i m pv h1 h2).keep (fun k hk hF => hsame2 k hk (by omega))).mono (fun x hx => ⟨hx.1, by omega, hx.2.2⟩)
  have hp2 : RowF (fun x => Z ≤ x ∧ x < W2.heap.size ∧ some x ≠ (Value.slice a1 pre.length c1).ownBlock) W2 1 (.slice ap m.pay.length cp) m.pay.length (payCells m.pay) := by
    have hlt0 := G0.low
    obtain ⟨v0', pvs', hbl0, ht0⟩ := G0.out
    have hveq : v0' = .slice a1 pre.length c1 := by
      have h1 : Boxed W bl 43 v0' := (hb.block bl hbl0.lt).trans hbl0
      have h2 : some (Obj.cells #[v0'] 43 (0, 0)) = some (Obj.cells #[.slice a1 pre.length c1] 43 (0, 0)) := Eq.trans (Eq.symm h1) hbl
      simpa using h2
    refine (hrow.keep (fun k hk hF => hsame2 k hk (by have := hF.1; omega))).mono (fun x hx => ⟨by have := hx.1; omega, by have := hx.2; omega, fun e => ?_⟩)
    rw [← hveq] at e
    have h3 := owned_lt ht0.own e.symm
    have := hx.1
    omega
  have c0 : W2.cell? ⟨W.heap.size, 0, none⟩ = some (.string m.topic) := by unfold World.cell?; simp only; rw [gm2]; rfl
  have c4 : W2.cell? ⟨W.heap.size, 1, none⟩ = some (.slice ap m.pay.length cp) := by unfold World.cell?; simp only; rw [gm2]; rfl
  have c5 : W2.cell? ⟨W.heap.size, 2, none⟩ = some (.int .i64 m.qos) := by unfold World.cell?; simp only; rw [gm2]; rfl
  have c6 : W2.cell? ⟨W.heap.size, 3, none⟩ = some (.bool m.ret) := by unfold World.cell?; simp only; rw [gm2]; rfl
  have k3 := c3'.cell
  have k4 := c2'.cell
  have HT := Lib.hid ht2
  have HP2 := Lib.hid hp2
  have HC1 := Lib.hid c1'
  have HC2 := Lib.hid c2'
  have HC3 := Lib.hid c3'
  have HX2 := Lib.hid hX2
  have HO2 := Lib.hid ho2
  have HBEL := Lib.hid hbel
  have HL := Lib.hid hl
  have HOLD := Lib.hid hold
  have HZ := Lib.hid (show Z ≤ W2.heap.size by have := hl.2.2.2.2.2.2.2.2; omega)
  clear G G0 hb hrow hbl ht gm hb1 b1 b2 b3 hset c1' c2' c3' gm2 hsame2 hX2 ho2 hbel ht2 hp2 hl hold
  simp only [List.append_toArray, List.cons_append, List.nil_append]
  go_enter Tryz.func33, Tryz.ntmps33
  go_upto_region 1 with fail
  try rw [hW1]
  go_upto_region 2 with fail
  try rw [hW2]
  clear hW1 hW2 k1 f1 k2
  go_wp2_with (at_builtin; refine wpList_append_own_at _ rfl _ _ 43 rfl Z 36 i0 (.agg #[.string ⟨#[]⟩, .slice none 0 0, .int .i64 0, .bool false]) 4 56 Tryz.underlying43 hi hz0 hz1 hz2 rfl (by decide) _ _ _ rfl (HT.out.own.alloc _) ⟨W.heap.size + 1, 0, none⟩ 1 1 (msgCells m (.slice ap m.pay.length cp)) rfl rfl ?c2 ?c3 ?c4 ?c5 ?c6 ?_)
  case c2 => intro j u hj; have h := cells_new W2 #[.string m.topic, .slice ap m.pay.length cp, .int .i64 m.qos, .bool m.ret] 36 j u hj; rw [hs2, hs1] at h; exact h
  case c3 => intro u hu; simp [msgCells] at hu; rcases hu with rfl | rfl | rfl | rfl <;> simp [Value.oneCell']
  case c4 => unfold maxLen; omega
  case c5 => omega
  case c6 => have := HZ.out; simp; omega
  intro v' w1 hown1 hgrow1 _ hob1
  obtain ⟨a2, c2, rfl⟩ := owns_slice hown1
  obtain ⟨hbx, hG, hK, hO⟩ := given_app (o := .cells #[.string m.topic, .slice ap m.pay.length cp, .int .i64 m.qos, .bool m.ret] 36) ⟨HL.out.1, HL.out.2.1, HL.out.2.2.1, HL.out.2.2.2.1, HL.out.2.2.2.2.1, HL.out.2.2.2.2.2.1, HL.out.2.2.2.2.2.2.1, HL.out.2.2.2.2.2.2.2.1⟩ HZ.out HC1.out HC2.out HC3.out HT.out (fun x hx => by have := HOLD.out x hx; have := HX2.out.1; exact ⟨by omega, by omega, by omega⟩) HBEL.out HP2.out (hob1.imp id (fun e => e.trans (by simp [hs1, hs2]))) hgrow1 hown1
  have e1 := hbx.cell
  have e2 := hbx.frozen
  obtain ⟨W3, hW3⟩ : ∃ W3, w1.setCell ⟨bl, 0, none⟩ (.slice a2 (pre.length + 1) c2) = W3 := ⟨_, rfl⟩
  rw [hW3] at hG hK hO
  have e3 := hG.num.cell
  have HG := Lib.hid hG
  have HK := Lib.hid hK
  have HO := Lib.hid hO
  clear hown1 hgrow1 hob1 hbx hG hK hO
  go_upto_region 3 with fail
  try rw [hW3]
  clear hW3
  go_wp2_with fail
  go_ret
  exact ⟨rfl, HG.out, HX2.out.trans HK.out, HO2.out.trans HO.out⟩

theorem func_not_nil (f : Fn) (b c : Array Value) (W : World) : (binOp .eql 47 (.func f b c) .nilFunc).run Tryz.prog W = .ok (.bool false) W := by
  have h : ∀ d : Nat, (Op.equalIn (d + 1) 47 (.func f b c) .nilFunc).run Tryz.prog W = .ok false W := fun d => by
    simp [Op.equalIn, run_underlying Tryz.underlying47]
  simp only [binOp]
  simp [Op.equal, Op.maxDepth, h 9999]

theorem given_taker (w0 : World) (Z bw bn bl N : Nat) (hN : N ≤ 2000000) : Taker 33 #[.pointer (some ⟨bw, 0, none⟩), .pointer (some ⟨bn, 0, none⟩), .pointer (some ⟨bl, 0, none⟩)] w0.heap.size N (GivAt w0 Z bw bn bl) where
  enters := enters_of Tryz.func33 (by kernel_rfl) rfl
  old := fun X pre W x h hx => (h.old x hx).1
  more := fun X X' pre W W' h hb hX => h.more hb hX
  own := fun X s W W' row hs hg hr => hs.others hg hr
  takes := fun X pre m v W0 W h hl _ hb hv => given1_any h hb hv (by omega)

set_option maxHeartbeats 2000000 in
set_option maxRecDepth 100000 in
theorem given_any {w : World} {S N : Nat} {capsS : Array Value} {ms : List MsgV} (hS : Gives S capsS w N ms) (hent : ∀ args W, (callFunc S args).run Tryz.prog W = .ok (.enter S args) W) (hN : N ≤ 2000000) :
    Calls Tryz.prog 14 #[.func (.func S) #[] capsS, .int .i64 0] w fun e w' => ∃ v, e = .returned (.tuple #[v, .bool true]) ∧ MsgsAt (fun x => w.heap.size ≤ x ∧ x < w'.heap.size) w' v ms ∧ Below w.heap.size w w' := by
  have hnf := func_not_nil
  have HS := Lib.hid hS
  clear hS
  go_enter Tryz.func14, Tryz.ntmps14
  go_wp2_with fail
  obtain ⟨w3, hw3⟩ : ∃ w3, ((w.alloc (.cells #[.int .i64 0] 3)).alloc (.cells #[.slice none 0 0] 43)).alloc (.cells #[.bool true] 4) = w3 := ⟨_, rfl⟩
  have g0 := Boxed.new w 3 (.int .i64 0)
  have g1 := Boxed.new (w.alloc (.cells #[.int .i64 0] 3)) 43 (.slice none 0 0)
  have g2 := Boxed.new ((w.alloc (.cells #[.int .i64 0] 3)).alloc (.cells #[.slice none 0 0] 43)) 4 (.bool true)
  have e0 := (g0.alloc (.cells #[.slice none 0 0] 43)).alloc (.cells #[.bool true] 4)
  have e1 := g1.alloc (.cells #[.bool true] 4)
  have hb3 : Below w.heap.size w (((w.alloc (.cells #[.int .i64 0] 3)).alloc (.cells #[.slice none 0 0] 43)).alloc (.cells #[.bool true] 4)) := (((Below.refl _ w).alloc (Nat.le_refl _) _).alloc (by simp) _).alloc (by simp; omega) _
  have hs3 : (((w.alloc (.cells #[.int .i64 0] 3)).alloc (.cells #[.slice none 0 0] 43)).alloc (.cells #[.bool true] 4)).heap.size = w.heap.size + 3 := by simp
  simp only [World.size_alloc] at g1 g2 e1
  rw [hw3] at g2 e0 e1 hb3 hs3 ⊢
  clear hw3 g0 g1
  have hG : GivAt w (w.heap.size + 3) (w.heap.size + 1 + 1) w.heap.size (w.heap.size + 1) (fun x => x < w.heap.size) [] w3 :=
    ⟨g2, e0, ⟨_, [], e1, rfl, World.ownsRow_nil _ _ _ _, fun i m pv h _ => by simp at h, fun x _ e => by simp [Value.ownBlock] at e⟩, fun x hx => ⟨by omega, by omega, by omega⟩, ⟨by omega, by omega, by omega, by omega, by omega, by omega, by omega, by omega, by omega⟩, hb3⟩
  refine (HS.out _ _ _ _ (fun x => x < w.heap.size) w3 (given_taker w (w.heap.size + 3) (w.heap.size + 1 + 1) w.heap.size (w.heap.size + 1) N hN) hb3.size hb3 (fun x hx => hx) hG).mono ?_
  rintro e W ⟨rfl, hJ⟩
  obtain ⟨v, pvs, hbx, ht⟩ := hJ.out
  obtain ⟨a1, c1, rfl⟩ := owns_slice ht.own
  have k1 := hbx.cell
  have k2 := hJ.well.cell
  have hfin : MsgsAt (fun x => w.heap.size ≤ x ∧ x < W.heap.size) W (.slice a1 ms.length c1) ms :=
    ⟨pvs, ht.len, RowF.of_owns ht.own (fun g h1 h2 => ⟨by omega, h2⟩), fun i m pv h1 h2 => (ht.pays i m pv h1 h2).mono (fun x hx => ⟨by omega, hx.2.1⟩)⟩
  have HFIN := Lib.hid (hfin.keep (w' := W.drew) (fun _ _ _ => rfl))
  have HB := Lib.hid hJ.below
  clear hfin hJ hbx ht hG g2 e0 e1 hb3 hs3
  go_wp2_with fail
  go_region
  go_wp2_with fail
  go_ret2
  exact ⟨_, rfl, HFIN.out, HB.out.drew⟩
end Go.Proofs.YtgnffkahlniehaaGreat
