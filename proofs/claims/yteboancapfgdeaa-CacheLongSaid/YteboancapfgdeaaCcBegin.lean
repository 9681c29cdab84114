/- Proved here: begin, a new pair; lot, the next number. -/
import Derived.Test.YteboancapfgdeaaCcDoes
import Derived.Laws.BitsLemmas
namespace Go.Proofs.Yteboancapfgdeaa
open Go.RowKit Go.Proofs.Cc

theorem codes_new (w : World) (t : TypeId) {K : Type} [DecidableEq K] (eT sz : Nat) (KK : Kd K) (zero : K) (S : Nat → Prop) (hS : S w.heap.size) : CodesAt eT sz KK zero (w.alloc (.cells #[.slice none 0 0] t)) w.heap.size S [] := by
  have hh := (MapKept.heap_alloc w (.cells #[.slice none 0 0] t)).1
  exact ⟨⟨.slice none 0 0, by unfold World.cell?; simp only; rw [hh]; rfl, World.ownsRow_nil _ _ _ _, fun g e => by cases e⟩, ⟨_, _, hh⟩, hS, .inl rfl⟩

set_option maxRecDepth 100000 in
set_option maxHeartbeats 2000000 in
theorem beginII_any {w : World} (m : Int) :
    Calls Try.prog 39 #[.int .i64 m] w fun ex w' => ∃ c mp kp vp, ex = .returned (.agg #[.pointer (some ⟨c, 0, none⟩), .pointer (some ⟨mp, 0, none⟩), .pointer (some ⟨kp, 0, none⟩), .pointer (some ⟨vp, 0, none⟩)]) ∧
      (∀ (o : Nat → Nat) (i : Nat), ∃ o' : Nat → Nat, DoesAt o' i w' c mp kp vp (clampN m) [] [] [] ∧ ∀ x, x < w.heap.size → o' x = o x) ∧ Below w.heap.size w w' := by
  go_enter Try.func39, Try.ntmps39
  go_wp2_with fail
  have hbw : Below w.heap.size w (w.alloc (.cells #[.pointer none, .pointer none, .pointer none, .pointer none] 89)) := (Below.refl _ w).alloc (Nat.le_refl _) _
  have hrw := (MapKept.heap_alloc w (.cells #[.pointer none, .pointer none, .pointer none, .pointer none] 89)).1
  have hs0 : (w.alloc (.cells #[.pointer none, .pointer none, .pointer none, .pointer none] 89)).heap.size = w.heap.size + 1 := by simp
  generalize w.alloc (.cells #[.pointer none, .pointer none, .pointer none, .pointer none] 89) = w0 at hbw hrw hs0 ⊢
  refine (newII_any (w := w0) m).mono ?_
  rintro ex w1 ⟨rfl, hC, hb1⟩
  have HC := Lib.hid hC
  have HB1 := Lib.hid hb1
  clear hC hb1
  go_wp2_with fail
  refine (refNew_any (w := w1) m).mono ?_
  rintro ex w2 ⟨rfl, hM, hb2, hs2⟩
  have HM := Lib.hid hM
  have HB2 := Lib.hid hb2
  have hres : w2.heap[w.heap.size]? = some (.cells #[.pointer none, .pointer none, .pointer none, .pointer none] 89 (0, 0)) := by
    rw [hb2.block _ (by have := HB1.out.size; omega), HB1.out.block _ (by omega)]
    exact hrw
  have hlt2 : w.heap.size < w2.heap.size := by have := HB1.out.size; have := HB2.out.size; omega
  obtain ⟨A, hA⟩ : ∃ A, (w2.alloc (.cells #[.slice none 0 0] 100)).alloc (.cells #[.slice none 0 0] 100) = A := ⟨_, rfl⟩
  have hresA : A.heap[w.heap.size]? = some (.cells #[.pointer none, .pointer none, .pointer none, .pointer none] 89 (0, 0)) := by
    rw [← hA, Below.heap_alloc _ _ _ (by simp; omega), Below.heap_alloc _ _ _ hlt2]
    exact hres
  have g0 : A.cell? ⟨w.heap.size, 0, none⟩ = some (.pointer none) := by unfold World.cell?; simp only; rw [hresA]; rfl
  have g1 : A.cell? ⟨w.heap.size, 1, none⟩ = some (.pointer none) := by unfold World.cell?; simp only; rw [hresA]; rfl
  have g2 : A.cell? ⟨w.heap.size, 2, none⟩ = some (.pointer none) := by unfold World.cell?; simp only; rw [hresA]; rfl
  have g3 : A.cell? ⟨w.heap.size, 3, none⟩ = some (.pointer none) := by unfold World.cell?; simp only; rw [hresA]; rfl
  have f0 : ∀ o, A.frozen? ⟨w.heap.size, o, none⟩ = false := fun o => Live.frozen ⟨_, _, hresA⟩ o none
  have f00 := f0 0
  have f01 := f0 1
  have f02 := f0 2
  have f03 := f0 3
  have HRA := Lib.hid hresA
  clear hM hb2 hrw f0 hres hresA
  go_wp2_with fail
  try rw [hA]
  clear g0 g1 g2 g3 f00 f01 f02 f03
  have s0 := heap_setCell_same A w.heap.size 0 _ _ (.pointer (some ⟨w.heap.size + 1, 0, none⟩)) HRA.out
  have s1 := heap_setCell_same _ w.heap.size 1 _ _ (.pointer (some ⟨w1.heap.size, 0, none⟩)) s0
  have s2 := heap_setCell_same _ w.heap.size 2 _ _ (.pointer (some ⟨w1.heap.size + 1, 0, none⟩)) s1
  have s3 := heap_setCell_same _ w.heap.size 3 _ _ (.pointer (some ⟨w1.heap.size + 1 + 1, 0, none⟩)) s2
  have hT : Turn (fun x => x = w.heap.size) A ((((A.setCell ⟨w.heap.size, 0, none⟩ (.pointer (some ⟨w.heap.size + 1, 0, none⟩))).setCell ⟨w.heap.size, 1, none⟩ (.pointer (some ⟨w1.heap.size, 0, none⟩))).setCell ⟨w.heap.size, 2, none⟩ (.pointer (some ⟨w1.heap.size + 1, 0, none⟩))).setCell ⟨w.heap.size, 3, none⟩ (.pointer (some ⟨w1.heap.size + 1 + 1, 0, none⟩))) :=
    ((((Turn.refl (fun x => x = w.heap.size) A).setCell (p := ⟨w.heap.size, 0, none⟩) (.inl rfl) _).setCell (p := ⟨w.heap.size, 1, none⟩) (.inl rfl) _).setCell (p := ⟨w.heap.size, 2, none⟩) (.inl rfl) _).setCell (p := ⟨w.heap.size, 3, none⟩) (.inl rfl) _
  generalize (((A.setCell ⟨w.heap.size, 0, none⟩ (.pointer (some ⟨w.heap.size + 1, 0, none⟩))).setCell ⟨w.heap.size, 1, none⟩ (.pointer (some ⟨w1.heap.size, 0, none⟩))).setCell ⟨w.heap.size, 2, none⟩ (.pointer (some ⟨w1.heap.size + 1, 0, none⟩))).setCell ⟨w.heap.size, 3, none⟩ (.pointer (some ⟨w1.heap.size + 1 + 1, 0, none⟩)) = B at s3 hT ⊢
  have hinf : (Try.prog.info? 89).map (·.size) = some 4 := by kernel_rfl
  refine bodyPost_ret (results_cell_row rfl _ _ w.heap.size _ _ _ _ rfl s3 Try.underlying89 rfl hinf) rfl ?_
  have h2A : Below w2.heap.size w2 A := by rw [← hA]; exact ((Below.refl _ w2).alloc (Nat.le_refl _) _).alloc (by simp) _
  have h1A : Below w1.heap.size w1 A := HB2.out.trans (h2A.mono HB2.out.size)
  have hAs : A.heap.size = w2.heap.size + 2 := by rw [← hA]; simp
  have hz1 := HB1.out.size
  refine ⟨w.heap.size + 1, w1.heap.size, w1.heap.size + 1, w1.heap.size + 1 + 1, rfl, fun o i => ?_, ?_⟩
  · refine ⟨fun x => if x < w.heap.size then o x else if x < w0.heap.size then 0 else if x < w1.heap.size then i + 1 else if x = w1.heap.size then i + 2 else if x = w1.heap.size + 1 then i + 3 else i + 4, ⟨⟨?_, ?_, ?_, ?_⟩, by simp, by simp, Nat.zero_le _⟩, fun x hx => by simp only; rw [if_pos hx]⟩
    · have c1 := CacheAt.tight (HC.out (fun x => w0.heap.size ≤ x) (fun _ h => h))
      rw [hs0] at c1
      refine ((c1.frame (Below.toSame h1A)).frame (hT.same (fun x h h' => by omega))).wider (fun x hx => ?_)
      rw [if_neg (by omega), if_neg (by omega), if_pos hx.2]
    · have c2 := HM.out (fun x => x = w1.heap.size) rfl
      refine ((c2.frame (Below.toSame h2A)).frame (hT.same (fun x h h' => by omega))).wider (fun x hx => ?_)
      rw [if_neg (by omega), if_neg (by omega), if_neg (by omega), if_pos hx]
    · have c3 := codes_new w2 100 3 1 kdI zeroI (fun x => x = w2.heap.size) rfl
      have hb3 : Below (w2.alloc (.cells #[.slice none 0 0] 100)).heap.size (w2.alloc (.cells #[.slice none 0 0] 100)) A := by rw [← hA]; exact (Below.refl _ _).alloc (Nat.le_refl _) _
      have c4 := ((c3.frame (Below.toSame hb3)).frame (hT.same (fun x h h' => by omega)))
      rw [hs2] at c4
      refine c4.wider (fun x hx => ?_)
      rw [if_neg (by omega), if_neg (by omega), if_neg (by omega), if_neg (by omega), if_pos hx]
    · have c3 := codes_new (w2.alloc (.cells #[.slice none 0 0] 100)) 100 3 1 kdI zeroI (fun x => x = (w2.alloc (.cells #[.slice none 0 0] 100)).heap.size) rfl
      rw [hA] at c3
      have e : (w2.alloc (.cells #[.slice none 0 0] 100)).heap.size = w1.heap.size + 1 + 1 := by simp [hs2]
      rw [e] at c3
      refine (c3.frame (hT.same (fun x h h' => by omega))).wider (fun x hx => ?_)
      rw [if_neg (by omega), if_neg (by omega), if_neg (by omega), if_neg (by omega), if_neg (by omega)]
  · exact ((hbw.trans (HB1.out.mono (by omega))).trans (h1A.mono (by omega))).trans (hT.below (by omega) (fun x hx h => by omega))

theorem i64_and31 (n : Int) : bits .and .i64 n 2147483647 = n % 2147483648 := by
  have h127 : (BitVec.ofInt 64 2147483647).toNat = 2 ^ 31 - 1 := by decide
  have key : (BitVec.ofInt 64 n &&& BitVec.ofInt 64 2147483647).toNat = (n % ((2 ^ 64 : Nat) : Int)).toNat % 2 ^ 31 := by
    rw [BitVec.toNat_and, BitVec.toNat_ofInt, h127, Nat.and_two_pow_sub_one_eq_mod]
  show IntKind.i64.wrap ((BitVec.ofInt 64 n &&& BitVec.ofInt 64 2147483647).toNat : Nat) = n % 2147483648
  rw [key, IntKind.wrap_i64]
  omega

theorem lot_any {w : World} (n : Int) (h0 : 0 ≤ n) (h1 : n ≤ 2147483647) : Calls Try.prog 40 #[.int .i64 n] w fun ex w' => ∃ x : Int, ex = .returned (.int .i64 x) ∧ 0 ≤ x ∧ x ≤ 2147483647 ∧ w' = w := by
  go_enter Try.func40, Try.ntmps40
  go_wp2_with fail
  go_ret
  have e := i64_and31 (n * 1103515245 + 12345)
  refine ⟨_, rfl, ?_, ?_, rfl⟩
  · show 0 ≤ bits .and .i64 (n * 1103515245 + 12345) 2147483647
    rw [e]; omega
  · show bits .and .i64 (n * 1103515245 + 12345) 2147483647 ≤ 2147483647
    rw [e]; omega

/-- What stands between two rounds of the long script. -/
def LongAt (w : World) (b c mp kp vp most j : Nat) (u : World) : Prop :=
  ∃ o E KL VL, DoesAt o 0 u c mp kp vp most E KL VL ∧ KL.length ≤ 2 * j ∧ VL.length ≤ 2 * j ∧ (∀ x, x < w.heap.size ∨ x = b ∨ x = b + 1 → o x = 0) ∧ BoxAt u b c mp kp vp ∧
    (∀ i (h : i < 16), u.cell? ⟨b + 1, i, none⟩ = some (.int .i64 (([1, 1, 1, 1, 2, 2, 2, 2, 2, 2, 3, 3, 5, 6, 1, 2] : List Int)[i]'h))) ∧ Below w.heap.size w u ∧ b + 2 ≤ u.heap.size

theorem LongAt.box {w u : World} {b c mp kp vp most j : Nat} (h : LongAt w b c mp kp vp most j u) : BoxAt u b c mp kp vp := by
  obtain ⟨o, E, KL, VL, h1, h2, h3, h4, h5, h6, h7, h8⟩ := h
  exact h5

theorem LongAt.below {w u : World} {b c mp kp vp most j : Nat} (h : LongAt w b c mp kp vp most j u) : Below w.heap.size w u := by
  obtain ⟨o, E, KL, VL, h1, h2, h3, h4, h5, h6, h7, h8⟩ := h
  exact h7

theorem LongAt.kinds {w u : World} {b c mp kp vp most j : Nat} (h : LongAt w b c mp kp vp most j u) : ∀ i (h : i < 16), u.cell? ⟨b + 1, i, none⟩ = some (.int .i64 (([1, 1, 1, 1, 2, 2, 2, 2, 2, 2, 3, 3, 5, 6, 1, 2] : List Int)[i]'h)) := by
  obtain ⟨o, E, KL, VL, h1, h2, h3, h4, h5, h6, h7, h8⟩ := h
  exact h6

theorem long_all {w u : World} {b c mp kp vp most j : Nat} (h : LongAt w b c mp kp vp most j u) (hm : most ≤ 1048576) (N : Int) :
    Calls Try.prog 42 #[.agg #[.pointer (some ⟨c, 0, none⟩), .pointer (some ⟨mp, 0, none⟩), .pointer (some ⟨kp, 0, none⟩), .pointer (some ⟨vp, 0, none⟩)], .int .i64 N] u
      fun ex w' => ex = .returned (.bool true) ∧ Below u.heap.size u w' := by
  obtain ⟨o, E, KL, VL, h1, h2, h3, h4, h5, h6, h7, h8⟩ := h
  exact allII_pair (h1.pair hm) N

theorem long_does {w u : World} {b c mp kp vp most j : Nat} (h : LongAt w b c mp kp vp most j u) (hw : w.heap.size ≤ b) (hm : most ≤ 1048576) (hj : j ≤ 20000) (kind : Int) (k v : I64) (stop : Int) :
    Calls Try.prog 41 #[.agg #[.pointer (some ⟨c, 0, none⟩), .pointer (some ⟨mp, 0, none⟩), .pointer (some ⟨kp, 0, none⟩), .pointer (some ⟨vp, 0, none⟩)], .int .i64 kind, .int .i64 k.1, .int .i64 v.1, .int .i64 stop] u
      fun ex w' => ex = .returned (.bool true) ∧ LongAt w b c mp kp vp most (j + 1) w' := by
  obtain ⟨o, E, KL, VL, h1, h2, h3, h4, h5, h6, h7, h8⟩ := h
  refine (doesII_any h1 hm (by omega) (by omega) kind k v stop).mono ?_
  rintro ex w' ⟨rfl, o', E', KL', VL', hD, hk, hv, ho, hT⟩
  have hbz : o b = 0 := h4 b (.inr (.inl rfl))
  have hkz : o (b + 1) = 0 := h4 (b + 1) (.inr (.inr rfl))
  refine ⟨rfl, o', E', KL', VL', hD, by omega, by omega, fun x hx => ?_, h5.turn hT (by omega), fun i hi => ?_, h7.trans (hT.below (by have := h7.size; exact h7.size) (fun x hx h => by have := h4 x (.inl hx); omega)), by have := hT.size; omega⟩
  · rw [ho x (by rcases hx with hx | rfl | rfl <;> omega)]
    exact h4 x hx
  · exact (hT.same (T := fun x => x = b + 1) (fun x hx h => by subst hx; omega)).cell rfl (h6 i hi)

theorem long_does2 {w u : World} {b c mp kp vp most j : Nat} (h : LongAt w b c mp kp vp most j u) (hw : w.heap.size ≤ b) (hm : most ≤ 1048576) (hj : j ≤ 20000) (kind k v stop : Int) (hk : (Lit.int .i64 k).wf = true) (hv : (Lit.int .i64 v).wf = true) :
    Calls Try.prog 41 #[.agg #[.pointer (some ⟨c, 0, none⟩), .pointer (some ⟨mp, 0, none⟩), .pointer (some ⟨kp, 0, none⟩), .pointer (some ⟨vp, 0, none⟩)], .int .i64 kind, .int .i64 k, .int .i64 v, .int .i64 stop] u
      fun ex w' => ex = .returned (.bool true) ∧ LongAt w b c mp kp vp most (j + 1) w' := long_does h hw hm hj kind ⟨k, hk⟩ ⟨v, hv⟩ stop

theorem LongAt.drew {w u : World} {b c mp kp vp most j : Nat} (h : LongAt w b c mp kp vp most j u) : LongAt w b c mp kp vp most j u.drew := by
  obtain ⟨o, E, KL, VL, h1, h2, h3, h4, h5, h6, h7, h8⟩ := h
  exact ⟨o, E, KL, VL, h1.below ((Below.refl _ u).drew), h2, h3, h4, h5.drew, h6, h7.drew, h8⟩

theorem long_boxes (w : World) (c mp kp vp : Nat) {w0 : World} {t1 t2 : TypeId} (h : (w.alloc (.cells #[.pointer (some ⟨c, 0, none⟩), .pointer (some ⟨mp, 0, none⟩), .pointer (some ⟨kp, 0, none⟩), .pointer (some ⟨vp, 0, none⟩)] t1)).alloc (.cells #[.int .i64 1, .int .i64 1, .int .i64 1, .int .i64 1, .int .i64 2, .int .i64 2, .int .i64 2, .int .i64 2, .int .i64 2, .int .i64 2, .int .i64 3, .int .i64 3, .int .i64 5, .int .i64 6, .int .i64 1, .int .i64 2] t2) = w0) :
    Below w.heap.size w w0 ∧ w0.heap.size = w.heap.size + 2 ∧ BoxAt w0 w.heap.size c mp kp vp ∧ ∀ i (h : i < 16), w0.cell? ⟨w.heap.size + 1, i, none⟩ = some (.int .i64 (([1, 1, 1, 1, 2, 2, 2, 2, 2, 2, 3, 3, 5, 6, 1, 2] : List Int)[i]'h)) := by
  subst h
  have g0 := (MapKept.heap_alloc w (.cells #[.pointer (some ⟨c, 0, none⟩), .pointer (some ⟨mp, 0, none⟩), .pointer (some ⟨kp, 0, none⟩), .pointer (some ⟨vp, 0, none⟩)] t1)).1
  generalize hA : w.alloc (.cells #[.pointer (some ⟨c, 0, none⟩), .pointer (some ⟨mp, 0, none⟩), .pointer (some ⟨kp, 0, none⟩), .pointer (some ⟨vp, 0, none⟩)] t1) = A at g0
  have hAs : A.heap.size = w.heap.size + 1 := by rw [← hA]; simp
  have g1 := (MapKept.heap_alloc A (.cells #[.int .i64 1, .int .i64 1, .int .i64 1, .int .i64 1, .int .i64 2, .int .i64 2, .int .i64 2, .int .i64 2, .int .i64 2, .int .i64 2, .int .i64 3, .int .i64 3, .int .i64 5, .int .i64 6, .int .i64 1, .int .i64 2] t2)).1
  have g0' := (Below.heap_alloc A (.cells #[.int .i64 1, .int .i64 1, .int .i64 1, .int .i64 1, .int .i64 2, .int .i64 2, .int .i64 2, .int .i64 2, .int .i64 2, .int .i64 2, .int .i64 3, .int .i64 3, .int .i64 5, .int .i64 6, .int .i64 1, .int .i64 2] t2) w.heap.size (by omega)).trans g0
  rw [hAs] at g1
  refine ⟨?_, by simp [hAs], ⟨by unfold World.cell?; simp only; rw [g0']; rfl, by unfold World.cell?; simp only; rw [g0']; rfl, by unfold World.cell?; simp only; rw [g0']; rfl, by unfold World.cell?; simp only; rw [g0']; rfl⟩, fun i hi => ?_⟩
  · rw [← hA]
    exact ((Below.refl _ w).alloc (Nat.le_refl _) _).alloc (by simp) _
  · unfold World.cell?
    simp only
    rw [g1]
    rcases i with _ | _ | _ | _ | _ | _ | _ | _ | _ | _ | _ | _ | _ | _ | _ | _ | i <;> first | rfl | omega

end Go.Proofs.Yteboancapfgdeaa
