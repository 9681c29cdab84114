/- Proved here: given, what an iterator gives, numbered, at most n entries. -/
import Derived.Test.YteboancapfgdeaaCcSIGiven
namespace Go.Proofs.Yteboancapfgdeaa.SI
open Go.RowKit Go.Proofs.Cc

/-- What is told of at most n entries. -/
def upTo {α : Type} (N : Int) (T : List α) : List α := if N < 0 then T else T.take N.toNat

/-- A pair's iterator over a cache whose keys and values are numbered. -/
structure ReadyAt (w : World) (c bx kp vp : Nat) (SC SK SV : Nat → Prop) (most : Nat) (E : List (Ent Str I64)) (KL : List Str) (VL : List I64) : Prop where
  cache : CacheAt Try.prog 9 kdS kdI w c SC most E
  box : w.cell? ⟨bx, 0, none⟩ = some (.pointer (some ⟨c, 0, none⟩))
  keys : CodesAt 9 1 kdS zeroS w kp SK KL
  vals : CodesAt 3 1 kdI zeroI w vp SV VL
  key : ∀ e ∈ E, e.key ∈ KL
  val : ∀ e ∈ E, e.val ∈ VL
  len : E.length ≤ 1048576

theorem ReadyAt.below {w w' : World} {c bx kp vp most : Nat} {SC SK SV : Nat → Prop} {E : List (Ent Str I64)} {KL : List Str} {VL : List I64} (R : ReadyAt w c bx kp vp SC SK SV most E KL VL) (hb : Below w.heap.size w w') : ReadyAt w' c bx kp vp SC SK SV most E KL VL :=
  ⟨R.cache.frame (Below.toSame hb), (hb.cell (World.block_lt_of_cell? w _ R.box)).trans R.box, R.keys.frame (Below.toSame hb), R.vals.frame (Below.toSame hb), R.key, R.val, R.len⟩

theorem CacheAt.tight {K V : Type} [DecidableEq K] {P : Program} {kT : TypeId} {KK : Kd K} {VK : Kd V} {w : World} {c most : Nat} {S : Nat → Prop} {E : List (Ent K V)} (C : CacheAt P kT KK VK w c S most E) : CacheAt P kT KK VK w c (fun x => S x ∧ x < w.heap.size) most E := by
  obtain ⟨b, h, D, C⟩ := C
  exact ⟨b, h, D, { C with sub := ⟨⟨C.sub.1, C.liveC.lt⟩, ⟨C.sub.2.1, C.own.lt⟩, fun x hx => ⟨C.sub.2.2 x hx, (C.live x hx).lt⟩⟩ }⟩

theorem CodesAt.tight {K : Type} [DecidableEq K] {eT sz : Nat} {KK : Kd K} {zero : K} {w : World} {k : Nat} {S : Nat → Prop} {L : List K} (R : CodesAt eT sz KK zero w k S L) : CodesAt eT sz KK zero w k (fun x => S x ∧ x < w.heap.size) L := by
  obtain ⟨⟨v, h1, h2, h3⟩, h4, h5, h6⟩ := R
  exact ⟨⟨v, h1, h2, fun g hg => ⟨⟨(h3 g hg).1, (h2.lt g hg).2⟩, (h3 g hg).2⟩⟩, h4, ⟨h5, h4.lt⟩, h6⟩

theorem owns_base {w : World} {base base' e size n : Nat} {v : Value} {xs : List Value} (h : w.ownsRow base e size v n xs) (hb : base' ≤ base) : w.ownsRow base' e size v n xs := by
  obtain ⟨h1, h2⟩ := h
  refine ⟨h1, ?_⟩
  rcases h2 with h2 | ⟨g, cap, cur, e1, hg, r⟩
  · exact .inl h2
  · exact .inr ⟨g, cap, cur, e1, Nat.le_trans hb hg, r⟩

theorem GivenAt.drew {w0 W : World} {be bw bo bn : Nat} {T : List (Int × Int)} {N : Int} {b : Bool} {n : Nat} (h : GivenAt w0 be bw bo bn T N b n W) : GivenAt w0 be bw bo bn T N b n W.drew :=
  ⟨h.turn.drew, h.ended, h.well, h.num, h.out, h.liveE, h.liveO, h.le, h.no, h.yes⟩

theorem upTo_all {α : Type} {N : Int} {T : List α} (hN : N ≠ 0) (h : ∀ j : Nat, 1 ≤ j → j ≤ T.length → (j : Int) ≠ N) : upTo N T = T := by
  unfold upTo
  split
  · rfl
  · rw [List.take_of_length_le]
    have := h N.toNat
    omega

theorem upTo_some {α : Type} {N : Int} {T : List α} {n : Nat} (h : (n : Int) = N) : upTo N T = T.take n := by
  unfold upTo
  rw [if_neg (by omega)]
  congr 1
  omega

theorem func_not_nil (f : Fn) (b c : Array Value) (W : World) : (binOp .eql 114 (.func f b c) .nilFunc).run Try.prog W = .ok (.bool false) W := by
  have h : ∀ d : Nat, (Op.equalIn (d + 1) 114 (.func f b c) .nilFunc).run Try.prog W = .ok false W := fun d => by
    simp [Op.equalIn, run_underlying Try.underlying114]
  simp only [binOp]
  simp [Op.equal, Op.maxDepth, h 9999]

theorem call_given1 (args : Array Value) (W : World) : (callFunc 133 args).run Try.prog W = .ok (.enter 133 args) W := by go_simp

/-- The cells that given lays. -/
theorem given_boxes (w : World) (c mp kp vp : Nat) (N : Int) {w0 : World} {t1 t2 t3 t4 t5 : TypeId} (h : (((((w.alloc (.cells #[.pointer (some ⟨c, 0, none⟩), .pointer (some ⟨mp, 0, none⟩), .pointer (some ⟨kp, 0, none⟩), .pointer (some ⟨vp, 0, none⟩)] t1)).alloc (.cells #[.int .i64 N] t2)).alloc
      (.cells #[.slice none 0 0] t3)).alloc (.cells #[.bool true] t4)).alloc (.cells #[.bool false] t5)) = w0) :
    Below w.heap.size w w0 ∧ w0.heap.size = w.heap.size + 5 ∧ w0.cell? ⟨w.heap.size, 2, none⟩ = some (.pointer (some ⟨kp, 0, none⟩)) ∧ w0.cell? ⟨w.heap.size, 3, none⟩ = some (.pointer (some ⟨vp, 0, none⟩)) ∧
    w0.cell? ⟨w.heap.size + 1, 0, none⟩ = some (.int .i64 N) ∧ w0.cell? ⟨w.heap.size + 1 + 1, 0, none⟩ = some (.slice none 0 0) ∧ w0.cell? ⟨w.heap.size + 1 + 1 + 1, 0, none⟩ = some (.bool true) ∧ w0.cell? ⟨w.heap.size + 1 + 1 + 1 + 1, 0, none⟩ = some (.bool false) ∧
    Live w0 (w.heap.size + 1 + 1 + 1 + 1) ∧ Live w0 (w.heap.size + 1 + 1) := by
  have at' : ∀ (l : List Obj) (i : Nat) (o : Obj), l[i]? = some o → (l.foldl (fun a o => a.alloc o) w).heap[w.heap.size + i]? = some o := by
    intro l
    have gen : ∀ (l : List Obj) (v : World) (i : Nat) (o : Obj), l[i]? = some o → (l.foldl (fun a o => a.alloc o) v).heap[v.heap.size + i]? = some o := by
      intro l
      induction l with
      | nil => intro v i o h; simp at h
      | cons a l ih =>
        intro v i o h
        cases i with
        | zero =>
          simp at h
          subst h
          have keep : ∀ (l : List Obj) (u : World) (k : Nat) (x : Obj), u.heap[k]? = some x → (l.foldl (fun a o => a.alloc o) u).heap[k]? = some x := by
            intro l
            induction l with
            | nil => intro u k x h; exact h
            | cons b l ih2 => intro u k x h; exact ih2 _ k x ((Below.heap_alloc u b k (Array.getElem?_eq_some_iff.1 h).1).trans h)
          exact keep l _ _ _ (MapKept.heap_alloc v a).1
        | succ i =>
          have := ih (v.alloc a) i o (by simpa using h)
          have e : (v.alloc a).heap.size + i = v.heap.size + (i + 1) := by simp; omega
          rw [e] at this
          exact this
    exact gen l w
  have k0 := at' [.cells #[.pointer (some ⟨c, 0, none⟩), .pointer (some ⟨mp, 0, none⟩), .pointer (some ⟨kp, 0, none⟩), .pointer (some ⟨vp, 0, none⟩)] t1, .cells #[.int .i64 N] t2, .cells #[.slice none 0 0] t3, .cells #[.bool true] t4, .cells #[.bool false] t5]
  simp only [List.foldl_cons, List.foldl_nil, h] at k0
  have g0 := k0 0 _ rfl
  have g1 := k0 1 _ rfl
  have g2 := k0 2 _ rfl
  have g3 := k0 3 _ rfl
  have g4 := k0 4 _ rfl
  rw [Nat.add_zero] at g0
  refine ⟨?_, by rw [← h]; simp, by unfold World.cell?; simp only; rw [g0]; rfl, by unfold World.cell?; simp only; rw [g0]; rfl, by unfold World.cell?; simp only; rw [g1]; rfl, by unfold World.cell?; simp only; rw [show w.heap.size + 1 + 1 = w.heap.size + 2 from rfl, g2]; rfl,
    by unfold World.cell?; simp only; rw [show w.heap.size + 1 + 1 + 1 = w.heap.size + 3 from rfl, g3]; rfl, by unfold World.cell?; simp only; rw [show w.heap.size + 1 + 1 + 1 + 1 = w.heap.size + 4 from rfl, g4]; rfl, ⟨_, _, g4⟩, ⟨_, _, g2⟩⟩
  rw [← h]
  exact (((((Below.refl _ w).alloc (Nat.le_refl _) _).alloc (by simp) _).alloc (by simp; omega) _).alloc (by simp; omega) _).alloc (by simp; omega) _

set_option maxRecDepth 100000 in
set_option maxHeartbeats 2000000 in
theorem givenSI_any {w : World} {c bx kp vp mp most : Nat} {SC SK SV : Nat → Prop} {E : List (Ent Str I64)} {KL : List Str} {VL : List I64} (R : ReadyAt w c bx kp vp SC SK SV most E KL VL) (N : Int) :
    Calls Try.prog 59 #[.agg #[.pointer (some ⟨c, 0, none⟩), .pointer (some ⟨mp, 0, none⟩), .pointer (some ⟨kp, 0, none⟩), .pointer (some ⟨vp, 0, none⟩)], .func (.func 132) #[] #[.pointer (some ⟨bx, 0, none⟩)], .int .i64 N] w
      fun ex w' => ∃ v, ex = .returned (.tuple #[v, .bool true]) ∧ w'.ownsRow w.heap.size 120 2 v (upTo N (codeE KL VL E)).length (rows (upTo N (codeE KL VL E))) ∧ Below w.heap.size w w' := by
  have HR := Lib.hid R
  have hnf := func_not_nil
  by_cases hN : N = 0
  · subst hN
    clear R
    go_enter Try.func59, Try.ntmps59
    go_wp2_with fail
    refine bodyPost_ret (results_tmp2 rfl _ _ _) rfl ?_
    exact ⟨_, rfl, World.ownsRow_nil _ _ _ _, ((Below.refl _ _).alloc (Nat.le_refl _) _).alloc (by simp) _⟩
  · have hNz : (N == 0) = false := by rw [beq_eq_false_iff_ne]; exact hN
    have HN := Lib.hid hN
    clear R hN
    go_enter Try.func59, Try.ntmps59
    go_wp2_with fail
    generalize hw0 : (((((w.alloc (.cells #[.pointer (some ⟨c, 0, none⟩), .pointer (some ⟨mp, 0, none⟩), .pointer (some ⟨kp, 0, none⟩), .pointer (some ⟨vp, 0, none⟩)] 28)).alloc (.cells #[.int .i64 N] 3)).alloc
      (.cells #[.slice none 0 0] 107)).alloc (.cells #[.bool true] 4)).alloc (.cells #[.bool false] 4)) = w0
    obtain ⟨hb0, hs0, p2, p3, n0, o0, wl0, e0, le0, lo0⟩ := given_boxes w c mp kp vp N hw0
    have R0 := HR.out.below hb0
    have hsz : w.heap.size ≤ w0.heap.size := by omega
    have hci : ∀ x, x < w.heap.size → ¬(x = w.heap.size + 1 + 1 + 1 + 1 ∨ x = w.heap.size + 1 + 1) := by intro x hx; omega
    have hCw := (CacheAt.tight HR.out.cache).frame (Below.toSame hb0)
    have hKw := (CodesAt.tight HR.out.keys).frame (Below.toSame hb0)
    have hVw := (CodesAt.tight HR.out.vals).frame (Below.toSame hb0)
    have hbxlt : bx < w.heap.size := World.block_lt_of_cell? w _ HR.out.box
    refine (all1SI_any hCw bx R0.box 133 _ (fun args W => call_given1 args W) (fun b n W => GivenAt w0 (w.heap.size + 1 + 1 + 1 + 1) (w.heap.size + 1 + 1 + 1) (w.heap.size + 1 + 1) (w.heap.size + 1) (codeE KL VL E) N b n W) ?_ (fun _ _ _ h => h.drew) ?_ ?_).mono ?_
    · intro b n W hJ x hx hT
      refine hJ.turn.block x hx ?_
      rcases hT with hT | rfl
      · exact hci x hT.2
      · exact hci x hbxlt
    · refine ⟨Turn.refl _ _, e0, wl0, n0, ⟨_, o0, World.ownsRow_nil _ _ _ _⟩, le0, lo0, Nat.zero_le _, fun _ j h1 h2 => by omega, fun h => by cases h⟩
    · intro n e W hE hJ
      have hin : e ∈ E := List.mem_of_getElem? hE
      have hsame : ∀ S : Nat → Prop, (∀ x, S x → x < w.heap.size) → Same S w0 W := fun S hS x hx hs => hJ.turn.block x hx (hci x (hS x hs))
      have hcp : ∀ o u, w0.cell? ⟨w.heap.size, o, none⟩ = some u → W.cell? ⟨w.heap.size, o, none⟩ = some u := fun o u hu => by
        rw [← hu]
        exact World.cell?_of_block (w := w0) (a := ⟨w.heap.size, o, none⟩) (hJ.turn.block _ (by show w.heap.size < w0.heap.size; omega) (by show ¬(w.heap.size = _ ∨ w.heap.size = _); omega))
      exact given1SI_any (bp := w.heap.size) (kp := kp) (vp := vp) hJ (by omega) ⟨by omega, by omega, by omega, by omega, by omega⟩ ⟨by omega, by omega, by omega, by omega, by omega, by omega⟩ (hKw.frame (hsame _ (fun x h => h.2))) (hVw.frame (hsame _ (fun x h => h.2)))
        (hcp _ _ p2) (hcp _ _ p3) e.key e.val (HR.out.key e hin) (HR.out.val e hin) (by unfold codeE; rw [List.getElem?_map, hE]; rfl) (by unfold codeE; rw [List.length_map]; exact HR.out.len)
    · have hTl : (codeE KL VL E).length = E.length := by unfold codeE; simp
      have fin : ∀ b n W, GivenAt w0 (w.heap.size + 1 + 1 + 1 + 1) (w.heap.size + 1 + 1 + 1) (w.heap.size + 1 + 1) (w.heap.size + 1) (codeE KL VL E) N b n W → (b = true → n = E.length) →
          ∃ v, W.cell? ⟨w.heap.size + 1 + 1, 0, none⟩ = some v ∧ W.cell? ⟨w.heap.size + 1 + 1 + 1, 0, none⟩ = some (.bool true) ∧ W.ownsRow w.heap.size 120 2 v (upTo N (codeE KL VL E)).length (rows (upTo N (codeE KL VL E))) ∧ Below w.heap.size w W := by
        intro b n W hJ hb
        obtain ⟨v, h1, h2⟩ := hJ.out
        have hup : upTo N (codeE KL VL E) = (codeE KL VL E).take n := by
          cases b with
          | true =>
            have hn := hb rfl
            rw [upTo_all HN.out (fun j h1 h2 => hJ.no rfl j h1 (by omega)), List.take_of_length_le (by omega)]
          | false => exact upTo_some (hJ.yes rfl)
        have hl : (upTo N (codeE KL VL E)).length = n := by rw [hup, List.length_take]; have := hJ.le; omega
        refine ⟨v, h1, hJ.well, ?_, hb0.trans (hJ.turn.below hsz hci)⟩
        rw [hl, hup]
        exact owns_base h2 hsz
      rintro ex W ⟨rfl, hJ⟩
      have hfin : ∃ v, W.cell? ⟨w.heap.size + 1 + 1, 0, none⟩ = some v ∧ W.cell? ⟨w.heap.size + 1 + 1 + 1, 0, none⟩ = some (.bool true) ∧ W.ownsRow w.heap.size 120 2 v (upTo N (codeE KL VL E)).length (rows (upTo N (codeE KL VL E))) ∧ Below w.heap.size w W := by
        rcases hJ with hJ | ⟨n, hn, hJ⟩
        · exact fin _ _ _ hJ (fun _ => rfl)
        · exact fin _ _ _ hJ (fun h => by cases h)
      obtain ⟨v, h1, h2, h3, h4⟩ := hfin
      obtain ⟨a1, c1, rfl⟩ := owns_shape h3
      have H3 := Lib.hid h3
      have H4 := Lib.hid h4
      clear hJ fin h3 h4 R0 hCw hKw hVw e0 wl0 n0 o0 p2 p3 hw0
      go_wp2_with fail
      go_region
      go_wp2_with fail
      refine bodyPost_ret (results_tmp2 rfl _ _ _) rfl ?_
      exact ⟨_, rfl, H3.out, H4.out.drew⟩

end Go.Proofs.Yteboancapfgdeaa.SI
