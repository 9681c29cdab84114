/- Proved here: All of a trie, gone through by a function that goes on. -/
import Derived.Test.YtgnffkahlniehaaGreatRtIter
import Derived.RangeFuncWrites
namespace Go.Proofs.YtgnffkahlniehaaGreat
open Go Go.RowKit Go.Shelf Go.Proofs.Gs Go.Proofs.Tri Go.Proofs.Rt Go.Proofs.Tp
attribute [local go_sem] Oper.semAt_some

theorem OwnFrom.wider {β : Type} {B B' : Nat} {I : β → World → Prop} (h : OwnFrom B I) (hB : B ≤ B') : OwnFrom B' I := fun s W W' row hs hg hr => h s W W' row hs hg (fun r e => ⟨Nat.le_trans hB (hr r e).1, (hr r e).2⟩)
theorem ownFrom_keeps {β : Type} {X : Nat → Prop} {B : Nat} {w : World} (hX : ∀ x, X x → x < w.heap.size) (hB : w.heap.size ≤ B) : OwnFrom B (fun (_ : β) W => Keeps X w W) := fun _ W W' row hs hg hr =>
  ⟨Nat.le_trans hs.1 hg.size, fun k hk hx => by
    refine (hg.block k (Nat.lt_of_lt_of_le hk hs.1) (fun e => ?_)).trans (hs.2 k hk hx)
    have := (hr k e.symm).1
    have := hX k hx
    omega⟩
theorem _root_.Go.Proofs.Rt.Same.sub' {F F' : Nat → Prop} {w w' : World} (h : Same F w w') (hF : ∀ x, F' x → F x) : Same F' w w' := fun k hk hx => h k hk (hF k hx)
theorem wide_fn (f : FuncId) : Fence.wide.fn f := trivial
theorem round_fn (l : Nat) (f : FuncId) : (Fence.wide.inRound l).fn f := trivial
theorem keeps_putObj {F : Nat → Prop} {B : Nat} (hF : ∀ x, F x → x < B) {W : World} {l : Nat} {o : Obj} (hl : B ≤ l) : Keeps F W (W.putObj l o) :=
  ⟨by simp, fun k _ hk => World.putObj_heap_other (fun e => by have := hF k hk; omega)⟩

set_option maxHeartbeats 4000000 in
set_option maxRecDepth 100000 in
theorem all1_gives {F : Nat → Prop} {w : World} {tb bx N : Nat} {t : Tree} (T : TrieAt F w tb t) (hsh : Short t) (hbx : w.cell? ⟨bx, 0, none⟩ = some (.pointer (some ⟨tb, 0, none⟩))) (hN : (body t).length ≤ N) :
    Gives 47 #[.pointer (some ⟨bx, 0, none⟩)] w N (vals (body t)) := by
  intro g caps base JJ X W TK hbase hbW hX hJ
  have hFo : ∀ x, F x → X x := fun x hx => hX x (T.old x hx)
  have T1 := T.below hbW
  have c0 := cell_below hbW hbx
  obtain ⟨p, c1, hn⟩ := T1.root
  have hXlt : ∀ x, X x → x < W.heap.size := fun x hx => TK.old X [] W x hJ hx
  have hnod := (nodes_small T.forest T.lim).1
  have HT := Lib.hid T1
  have HTK := Lib.hid TK
  have HJ := Lib.hid hJ
  have HFX := Lib.hid hFo
  have HXL := Lib.hid hXlt
  have HN := Lib.hid hn
  have HBW := Lib.hid hbW
  clear T T1 TK hJ hX hFo hXlt hn hbx hbW
  refine (callsIn_wide (n := 4)).1 ?_
  have hro : Fence.wide.round = none := rfl
  simp only [List.append_toArray, List.cons_append, List.nil_append]
  refine callsIn_of_wp_marks Tryz.func47 rfl trivial ?_ rfl
  simp only [Tryz.ntmps47, List.size_toArray, List.length_cons, List.length_nil, Nat.reduceAdd, Nat.reduceSub, Array.replicate_succ, Array.replicate_zero, List.push_toArray, List.append_toArray, List.nil_append, List.cons_append]
  have g0 := (MapKept.heap_alloc W (.cells #[.func (.func g) #[] caps] 77)).1
  have hb0 : Below W.heap.size W (W.alloc (.cells #[.func (.func g) #[] caps] 77)) := (Below.refl _ _).alloc (Nat.le_refl _) _
  have hs0 : (W.alloc (.cells #[.func (.func g) #[] caps] 77)).heap.size = W.heap.size + 1 := by simp
  have d0 := cell_below hb0 c0
  have d1 := cell_below hb0 c1
  gi_wp2_with (with_reducible refine And.intro skip_about ?_)
  generalize W.alloc (.cells #[.func (.func g) #[] caps] 77) = W0 at g0 hb0 hs0 d0 d1 ⊢
  refine ⟨trivial, ?_⟩
  refine (callsIn_wide.2 (seq_any _ p)).mono ?_
  rintro e w2 ⟨rfl, hbx2, hb2, hs2⟩
  rw [hs0] at hbx2 hs2 ⊢
  have hbw2 : Below W.heap.size W w2 := hb0.trans (hb2.mono (by omega))
  have hyb : w2.heap[W.heap.size]? = some (.cells #[.func (.func g) #[] caps] 77 (0, 0)) := (hb2.block _ (by omega)).trans g0
  have HYB := Lib.hid hyb
  have HJ2 := Lib.hid (HTK.out.more X (fun x => X x ∨ (W.heap.size ≤ x ∧ x < w2.heap.size)) [] W w2 HJ.out hbw2 (fun x hx => hx))
  have HB2 := Lib.hid hbw2
  clear g0 hb0 hs0 hb2 hbw2 hyb c0 c1
  gi_wp2_with (with_reducible refine And.intro skip_about ?_)
  have HB0 := Lib.hid (show base ≤ w2.heap.size by omega)
  have HXL2 := Lib.hid (show ∀ x, (X x ∨ (W.heap.size ≤ x ∧ x < w2.heap.size)) → x < w2.heap.size from fun x hx => by rcases hx with hx | hx; (have := HXL.out x hx; omega); exact hx.2)
  refine wpIn_rangeFunc_ownG rfl (by omega) (gf := 75) (lb := #[.pointer (some ⟨W.heap.size + 1, 0, none⟩)]) rfl trivial (enters_of Tryz.func75 (by kernel_rfl) rfl)
    (seq1_stops (F := F) (w := w2) (t := t) (N := N) (NodeAt.keep HB2.out HN.out) hnod hsh hbx2 hN 3) Keeps.trans
    (fun W l o o' hl h _ _ => keeps_putObj (B := w2.heap.size) (fun x hx => HXL2.out x (.inl (HFX.out x hx))) hl) (Below.refl _ _) (fun _ => rfl)
    (fun pre W' => JJ (fun x => X x ∨ (W.heap.size ≤ x ∧ x < w2.heap.size)) (pre.map msgOf) W' ∧ Keeps (fun x => X x ∨ (W.heap.size ≤ x ∧ x < w2.heap.size)) w2 W')
    (fun _ _ _ => False)
    (OwnFrom.and (fun s A B row hs hg hr => OwnFrom.wider (HTK.out.own _) HB0.out (s.map msgOf) A B row hs hg hr) (ownFrom_keeps HXL2.out (Nat.le_refl _)))
    (fun _ _ _ _ _ hs _ _ => hs)
    ⟨HJ2.out, Keeps.refl _ _⟩
    (fun x => { tmps := #[.func (.func g) #[] caps, .pointer (some ⟨bx, 0, none⟩), .pointer (some ⟨W.heap.size, 0, none⟩), .pointer (some ⟨x.1.1, 0, none⟩), .pointer (some ⟨tb, 0, none⟩), .pointer (some ⟨tb, 0, none⟩), .pointer (some ⟨tb, 0, none⟩), .pointer (some ⟨p, 0, none⟩), .func (.func 75) #[] #[.pointer (some ⟨W.heap.size + 1, 0, none⟩)], .pointer (some ⟨x.1.1, 0, none⟩), undef, undef, undef, undef, undef, undef, undef], defers := [] }) ?assign ?body ?done ?stop
  case assign =>
    intro l x W' K hK
    gi_wp2_with (with_reducible refine And.intro skip_about ?_)
    exact hK
  case body =>
    rintro l pre x W' ⟨hJp, hKp⟩ hlen
    have HKP := Lib.hid hKp
    have HJP := Lib.hid hJp
    have hm : MsgAt F W' x.1.1 x.1.2 := MsgAt.keep x.2.1 (hKp.2.sub' (fun y hy => .inl (HFX.out y hy)))
    have hyb : W'.heap[W.heap.size]? = some (.cells #[.func (.func g) #[] caps] 77 (0, 0)) := (hKp.2 _ (by have := (Array.getElem?_eq_some_iff.1 HYB.out).1; exact this) (.inr ⟨Nat.le_refl _, by have := (Array.getElem?_eq_some_iff.1 HYB.out).1; exact this⟩)).trans HYB.out
    have y0 : W'.cell? ⟨W.heap.size, 0, none⟩ = some (.func (.func g) #[] caps) := by unfold World.cell?; simp only; rw [hyb]; rfl
    obtain ⟨pv, hpc, hpr⟩ := hm.c1
    have k0 := hm.c0
    have k2 := hm.c2
    have k3 := hm.c3
    have HP := Lib.hid hpr
    have HLEN := Lib.hid x.2.2
    have HL := Lib.hid (show (pre.map msgOf).length < N by simpa using hlen)
    obtain ⟨⟨bm, m⟩, hx1, hx2⟩ := x
    simp only [] at k0 k2 k3 hpc HP HLEN
    have hcall := HTK.out.enters
    have hmix : (Tryz.prog).follows .mixedOrders = true := by kernel_rfl
    clear hJp hKp hm hyb hpr hlen
    gi_wp2_with (first | (with_reducible refine And.intro skip_about ?_) | (with_reducible refine And.intro (wide_fn _) ?_) | (with_reducible refine And.intro (round_fn _ _) ?_))
    gi_region_with_o (first
      | (with_reducible refine And.intro skip_about ?_)
      | (with_reducible refine And.intro (wide_fn _) ?_)
      | (with_reducible refine And.intro (round_fn _ _) ?_)
      | (gi_at_call 26
         (refine (CallsIn.inRound l (callsIn_wide.2 (own_any (F := F) (w := W'.drew) (v := .agg #[.string m.topic, pv, .int .i64 m.qos, .bool m.ret]) (m := m) ⟨pv, rfl, HP.out.keep (fun _ _ _ => rfl)⟩ HLEN.out))).mono ?_)
         rintro e W5 ⟨v5, rfl, hv5, hb5⟩
         have HV5 := Lib.hid hv5
         have HB5 := Lib.hid hb5
         have y5 := cell_below (w := W'.drew) hb5 y0
         clear hv5 hb5)
      | ((refine (CallsIn.inRound l (callsIn_wide.2 (HTK.out.takes _ _ m v5 W' W5 HJP.out HL.out HLEN.out (show Below W'.heap.size W' W5 from ((Below.refl _ W').drew).trans HB5.out) HV5.out))).mono ?_)
         rintro e W6 ⟨rfl, hj6, hk6, ho6⟩
         have HJ6 := Lib.hid hj6
         have HK6 := Lib.hid hk6
         have HO6 := Lib.hid ho6
         clear hj6 hk6 ho6))
    all_goals
      gi_wp2_with (first | (with_reducible refine And.intro skip_about ?_) | (with_reducible refine And.intro (wide_fn _) ?_) | (with_reducible refine And.intro (round_fn _ _) ?_))
      have hb6 : Below W'.heap.size W' W5 := ((Below.refl _ W').drew).trans HB5.out
      have hk6 : Keeps (fun x => X x ∨ (W.heap.size ≤ x ∧ x < w2.heap.size)) W' W6 := (keeps_below hb6).trans HK6.out
      exact ⟨((others_below hb6).trans HO6.out).from _, hk6.sub (fun x hx => .inl (HFX.out x hx)), by rw [List.map_append]; exact HJ6.out, HKP.out.trans hk6⟩
  case done =>
    rintro D ys W' hD hys ⟨hJp, hKp⟩ hK
    have hys' : ys.map msgOf = vals (body t) := hys
    rw [hys'] at hJp
    have HJP := Lib.hid hJp
    clear hys hys' hJp
    gi_wp2_with (with_reducible refine And.intro skip_about ?_)
    refine ⟨by simp, .inl ⟨_, _, rfl, run_takeDeferred hK, ?_⟩⟩
    refine ⟨.tuple #[], by simp [results, Tryz.f47, go_sem], rfl, ?_⟩
    have h1 := OwnFrom.putObj (OwnFrom.wider (HTK.out.own _) HB0.out) (.deferred none) HJP.out hD hK rfl
    exact HTK.out.more _ X _ _ _ h1 (Below.refl _ _) (fun x hx => .inl (.inl hx))
  case stop =>
    rintro D c' pre W' hD hpre h hK
    exact h.elim
end Go.Proofs.YtgnffkahlniehaaGreat
