/- Proved here: all, the rest. -/
import Derived.Test.YteboancapfgdeaaCcKIAll
import Derived.Laws.EntriesVeiled
namespace Go.Proofs.Yteboancapfgdeaa.KI
open Go.RowKit Go.Proofs.Cc

/-- A pair: the program's cache and the document's. -/
structure PairAt (w : World) (c mp kp vp : Nat) (SC SM SK SV : Nat → Prop) (most : Nat) (E : List (Ent KeyV I64)) (KL : List KeyV) (VL : List I64) : Prop where
  cache : CacheAt Try.prog 31 kdK kdI w c SC most E
  ref : RefAt 120 w mp SM most (codeE KL VL E)
  keys : CodesAt 31 2 kdK zeroK w kp SK KL
  vals : CodesAt 3 1 kdI zeroI w vp SV VL
  key : ∀ e ∈ E, e.key ∈ KL
  val : ∀ e ∈ E, e.val ∈ VL
  len : E.length ≤ most
  room : most ≤ 1048576

theorem RefAt.tight {eT : TypeId} {w : World} {m most : Nat} {S : Nat → Prop} {L : List (Int × Int)} (R : RefAt eT w m S most L) : RefAt eT w m (fun x => S x ∧ x < w.heap.size) most L := by
  obtain ⟨h1, ⟨v, h2, h3, h4⟩, h5, h6⟩ := R
  exact ⟨h1, ⟨v, h2, h3, fun g hg => ⟨⟨(h4 g hg).1, (h3.lt g hg).2⟩, (h4 g hg).2⟩⟩, h5, ⟨h6, h5.lt⟩⟩

theorem PairAt.tight {w : World} {c mp kp vp most : Nat} {SC SM SK SV : Nat → Prop} {E : List (Ent KeyV I64)} {KL : List KeyV} {VL : List I64} (R : PairAt w c mp kp vp SC SM SK SV most E KL VL) :
    PairAt w c mp kp vp (fun x => SC x ∧ x < w.heap.size) (fun x => SM x ∧ x < w.heap.size) (fun x => SK x ∧ x < w.heap.size) (fun x => SV x ∧ x < w.heap.size) most E KL VL :=
  ⟨CacheAt.tight R.cache, RefAt.tight R.ref, CodesAt.tight R.keys, CodesAt.tight R.vals, R.key, R.val, R.len, R.room⟩

/-- What turns elsewhere. -/
theorem PairAt.frame {w w' : World} {c mp kp vp most : Nat} {SC SM SK SV : Nat → Prop} {E : List (Ent KeyV I64)} {KL : List KeyV} {VL : List I64} (R : PairAt w c mp kp vp SC SM SK SV most E KL VL) (h1 : Same SC w w') (h2 : Same SM w w') (h3 : Same SK w w') (h4 : Same SV w w') : PairAt w' c mp kp vp SC SM SK SV most E KL VL :=
  ⟨R.cache.frame h1, R.ref.frame h2, R.keys.frame h3, R.vals.frame h4, R.key, R.val, R.len, R.room⟩

theorem PairAt.below {w w' : World} {c mp kp vp most : Nat} {SC SM SK SV : Nat → Prop} {E : List (Ent KeyV I64)} {KL : List KeyV} {VL : List I64} (R : PairAt w c mp kp vp SC SM SK SV most E KL VL) (hb : Below w.heap.size w w') : PairAt w' c mp kp vp SC SM SK SV most E KL VL :=
  R.frame (Below.toSame hb) (Below.toSame hb) (Below.toSame hb) (Below.toSame hb)

theorem PairAt.ready {w : World} {c mp kp vp most bx : Nat} {SC SM SK SV : Nat → Prop} {E : List (Ent KeyV I64)} {KL : List KeyV} {VL : List I64} (R : PairAt w c mp kp vp SC SM SK SV most E KL VL) (hb : w.cell? ⟨bx, 0, none⟩ = some (.pointer (some ⟨c, 0, none⟩))) : ReadyAt w c bx kp vp SC SK SV most E KL VL :=
  ⟨R.cache, hb, R.keys, R.vals, R.key, R.val, Nat.le_trans R.len R.room⟩

theorem call_all1 (args : Array Value) (W : World) : (callFunc 109 args).run Try.prog W = .ok (.enter 109 args) W := by go_simp

/-- The cells that all lays first. -/
theorem all_boxes (w : World) (c mp kp vp : Nat) (f : Value) {w0 : World} {t1 t2 t3 : TypeId} (h : ((w.alloc (.cells #[.pointer (some ⟨c, 0, none⟩), .pointer (some ⟨mp, 0, none⟩), .pointer (some ⟨kp, 0, none⟩), .pointer (some ⟨vp, 0, none⟩)] t1)).alloc (.cells #[.pointer (some ⟨c, 0, none⟩)] t2)).alloc (.cells #[f] t3) = w0) :
    Below w.heap.size w w0 ∧ w0.heap.size = w.heap.size + 3 ∧ w0.cell? ⟨w.heap.size, 0, none⟩ = some (.pointer (some ⟨c, 0, none⟩)) ∧ w0.cell? ⟨w.heap.size, 1, none⟩ = some (.pointer (some ⟨mp, 0, none⟩)) ∧ w0.cell? ⟨w.heap.size, 2, none⟩ = some (.pointer (some ⟨kp, 0, none⟩)) ∧ w0.cell? ⟨w.heap.size, 3, none⟩ = some (.pointer (some ⟨vp, 0, none⟩)) ∧
    w0.cell? ⟨w.heap.size + 1, 0, none⟩ = some (.pointer (some ⟨c, 0, none⟩)) ∧ w0.cell? ⟨w.heap.size + 1 + 1, 0, none⟩ = some f := by
  subst h
  have g0 := (MapKept.heap_alloc w (.cells #[.pointer (some ⟨c, 0, none⟩), .pointer (some ⟨mp, 0, none⟩), .pointer (some ⟨kp, 0, none⟩), .pointer (some ⟨vp, 0, none⟩)] t1)).1
  generalize hA : w.alloc (.cells #[.pointer (some ⟨c, 0, none⟩), .pointer (some ⟨mp, 0, none⟩), .pointer (some ⟨kp, 0, none⟩), .pointer (some ⟨vp, 0, none⟩)] t1) = A at g0
  have hAs : A.heap.size = w.heap.size + 1 := by rw [← hA]; simp
  have g1 := (MapKept.heap_alloc A (.cells #[.pointer (some ⟨c, 0, none⟩)] t2)).1
  have g0' := (Below.heap_alloc A (.cells #[.pointer (some ⟨c, 0, none⟩)] t2) w.heap.size (by omega)).trans g0
  generalize hB : A.alloc (.cells #[.pointer (some ⟨c, 0, none⟩)] t2) = B at g1 g0'
  have hBs : B.heap.size = w.heap.size + 2 := by rw [← hB]; simp [hAs]
  have g2 := (MapKept.heap_alloc B (.cells #[f] t3)).1
  have g1' := (Below.heap_alloc B (.cells #[f] t3) A.heap.size (by omega)).trans g1
  have g0'' := (Below.heap_alloc B (.cells #[f] t3) w.heap.size (by omega)).trans g0'
  rw [hAs] at g1'
  rw [hBs] at g2
  refine ⟨?_, by simp [hBs], by unfold World.cell?; simp only; rw [g0'']; rfl, by unfold World.cell?; simp only; rw [g0'']; rfl, by unfold World.cell?; simp only; rw [g0'']; rfl, by unfold World.cell?; simp only; rw [g0'']; rfl, by unfold World.cell?; simp only; rw [g1']; rfl, by unfold World.cell?; simp only; rw [show w.heap.size + 1 + 1 = w.heap.size + 2 from rfl, g2]; rfl⟩
  rw [← hB, ← hA]
  exact (((Below.refl _ w).alloc (Nat.le_refl _) _).alloc (by simp) _).alloc (by simp; omega) _

theorem cell_keep2 {w : World} {a : Addr} {u : Value} (o1 o2 : Obj) (h : w.cell? a = some u) : ((w.alloc o1).alloc o2).cell? a = some u := by
  have h1 : (w.alloc o1).cell? a = some u := (World.cell?_of_block (w := w) (Below.heap_alloc w o1 _ (World.block_lt_of_cell? w a h))).trans h
  exact (World.cell?_of_block (w := w.alloc o1) (Below.heap_alloc _ o2 _ (World.block_lt_of_cell? _ a h1))).trans h1

theorem two_boxes (w : World) {w0 : World} {u v : Value} {t1 t2 : TypeId} (h : (w.alloc (.cells #[u] t1)).alloc (.cells #[v] t2) = w0) :
    Below w.heap.size w w0 ∧ w0.heap.size = w.heap.size + 2 ∧ w0.cell? ⟨w.heap.size, 0, none⟩ = some u ∧ w0.cell? ⟨w.heap.size + 1, 0, none⟩ = some v ∧ Live w0 w.heap.size ∧ Live w0 (w.heap.size + 1) := by
  subst h
  have g0 := (MapKept.heap_alloc w (.cells #[u] t1)).1
  generalize hA : w.alloc (.cells #[u] t1) = A at g0
  have hAs : A.heap.size = w.heap.size + 1 := by rw [← hA]; simp
  have g1 := (MapKept.heap_alloc A (.cells #[v] t2)).1
  have g0' := (Below.heap_alloc A (.cells #[v] t2) w.heap.size (by omega)).trans g0
  rw [hAs] at g1
  refine ⟨?_, by simp [hAs], by unfold World.cell?; simp only; rw [g0']; rfl, by unfold World.cell?; simp only; rw [g1]; rfl, ⟨_, _, g0'⟩, ⟨_, _, g1⟩⟩
  rw [← hA]
  exact ((Below.refl _ w).alloc (Nat.le_refl _) _).alloc (by simp) _

theorem owns_cut {w : World} {base e : Nat} {a : Option Addr} {cap : Nat} {L : List (Int × Int)} (h : w.ownsRow base e 2 (.slice a L.length cap) L.length (rows L)) (n : Nat) (hn : n < L.length) :
    w.ownsRow base e 2 (.slice a n cap) (L.take n).length (rows (L.take n)) ∧ n ≤ cap := by
  have h' := h
  rcases h.2 with ⟨h1, h0⟩ | ⟨g, cap', cur, e1, hb, hg, hc, r⟩
  · omega
  · injection e1 with e1 e2 e3
    subst e1; subst e3
    exact ⟨owns_take h' n (by omega), by omega⟩

set_option maxRecDepth 100000 in
set_option maxHeartbeats 4000000 in
theorem allKI_pair {w : World} {c mp kp vp most : Nat} {SC SM SK SV : Nat → Prop} {E : List (Ent KeyV I64)} {KL : List KeyV} {VL : List I64} (R : PairAt w c mp kp vp SC SM SK SV most E KL VL) (N : Int) :
    Calls Try.prog 26 #[.agg #[.pointer (some ⟨c, 0, none⟩), .pointer (some ⟨mp, 0, none⟩), .pointer (some ⟨kp, 0, none⟩), .pointer (some ⟨vp, 0, none⟩)], .int .i64 N] w
      fun ex w' => ex = .returned (.bool true) ∧ Below w.heap.size w w' := by
  have HR := Lib.hid (PairAt.tight R)
  obtain ⟨vm, hmc, hom, hvm⟩ := R.ref.list
  obtain ⟨am, cm, rfl⟩ := owns_shape hom
  have HOM := Lib.hid hom
  have hml := R.ref.live.lt
  obtain ⟨T, hT⟩ : ∃ T, codeE KL VL E = T := ⟨_, rfl⟩
  have HT := Lib.hid hT
  rw [hT] at hmc hom HOM
  clear R hvm hT
  rcases Int.lt_or_le N 0 with hN | hN
  · have d0 : decide ((0 : Int) ≤ N) = false := by simp; omega
    have HS := Lib.hid (show w.ownsRow 0 120 2 (.slice am T.length cm) (upTo N T).length (rows (upTo N T)) from by unfold upTo; rw [if_pos hN]; exact hom)
    clear hom hN
    go_enter Try.func26, Try.ntmps26
    go_wp2_with fail
    refine (allKI_any c).mono ?_
    rintro ex W1 ⟨rfl, rfl⟩
    have hmX : (((w.alloc (.cells #[.pointer (some ⟨c, 0, none⟩), .pointer (some ⟨mp, 0, none⟩), .pointer (some ⟨kp, 0, none⟩), .pointer (some ⟨vp, 0, none⟩)] 66)).alloc (.cells #[.pointer (some ⟨c, 0, none⟩)] 64)).alloc (.cells #[.func (.func 154) #[] #[.pointer (some ⟨w.heap.size + 1, 0, none⟩)]] 180)).cell? ⟨mp, 1, none⟩ = some (.slice am T.length cm) := by
      have hbX := (all_boxes w c mp kp vp (.func (.func 154) #[] #[.pointer (some ⟨w.heap.size + 1, 0, none⟩)]) (t1 := 66) (t2 := 64) (t3 := 180) rfl).1
      exact (hbX.cell (World.block_lt_of_cell? w _ hmc)).trans hmc
    go_wp2_with fail
    clear hmX
    generalize hW3 : ((w.alloc (.cells #[.pointer (some ⟨c, 0, none⟩), .pointer (some ⟨mp, 0, none⟩), .pointer (some ⟨kp, 0, none⟩), .pointer (some ⟨vp, 0, none⟩)] 66)).alloc (.cells #[.pointer (some ⟨c, 0, none⟩)] 64)).alloc (.cells #[.func (.func 154) #[] #[.pointer (some ⟨w.heap.size + 1, 0, none⟩)]] 180) = W3
    obtain ⟨hb3, hs3, p0, p1, p2, p3, bx0, bf0⟩ := all_boxes w c mp kp vp _ hW3
    have R3 := HR.out.below hb3
    have hm3 := (hb3.cell (World.block_lt_of_cell? w _ hmc)).trans hmc
    refine (givenKI_any (mp := mp) (R3.ready bx0) N).mono ?_
    rintro ex W4 ⟨va, rfl, hownA, hb4⟩
    have cl4 : ∀ b o u, W3.cell? ⟨b, o, none⟩ = some u → W4.cell? ⟨b, o, none⟩ = some u := fun b o u h => (hb4.cell (World.block_lt_of_cell? W3 _ h)).trans h
    have R4 := R3.below hb4
    have p0' := cl4 _ _ _ p0
    have p1' := cl4 _ _ _ p1
    have p2' := cl4 _ _ _ p2
    have p3' := cl4 _ _ _ p3
    have bx4 := cl4 _ _ _ bx0
    have bf4 := cl4 _ _ _ bf0
    have hm4 := cl4 _ _ _ hm3
    have HB3 := Lib.hid hb3
    have HB4 := Lib.hid hb4
    have HA := Lib.hid hownA
    have HR4 := Lib.hid R4
    have HBX := Lib.hid bx4
    clear hW3 p0 p1 p2 p3 bx0 bf0 hm3 cl4 R3 R4 hb3 hb4 hownA hmc
    go_wp2_with fail
    refine (givenKI_any (mp := mp) (HR4.out.ready HBX.out) (-1)).mono ?_
    rintro ex W5 ⟨vb, rfl, hownB, hb5⟩
    have cl5 : ∀ b o u, W4.cell? ⟨b, o, none⟩ = some u → W5.cell? ⟨b, o, none⟩ = some u := fun b o u h => (hb5.cell (World.block_lt_of_cell? W4 _ h)).trans h
    have R5 := HR4.out.below hb5
    have q0 := cl5 _ _ _ p0'
    have q1 := cl5 _ _ _ p1'
    have q2 := cl5 _ _ _ p2'
    have q3 := cl5 _ _ _ p3'
    have bx5 := cl5 _ _ _ bx4
    have bf5 := cl5 _ _ _ bf4
    have hm5 := cl5 _ _ _ hm4
    have hup : upTo (-1) (codeE KL VL E) = codeE KL VL E := by unfold upTo; rw [if_pos (by omega)]
    rw [hup, HT.out] at hownB
    have hA5 := ownsRow_same HA.out (Below.toSame hb5 (S := fun _ => True)) (fun _ _ => trivial)
    rw [HT.out] at hA5
    have hb35 : Below w.heap.size w W5 := (HB3.out.trans (HB4.out.mono (by omega))).trans (hb5.mono (by have := HB4.out.size; omega))
    have hS5 := ownsRow_same HS.out (Below.toSame hb35 (S := fun _ => True)) (fun _ _ => trivial)
    have hO5 := ownsRow_same HOM.out (Below.toSame hb35 (S := fun _ => True)) (fun _ _ => trivial)
    have h5sz : w.heap.size + 3 ≤ W5.heap.size := by have := HB4.out.size; have := hb5.size; omega
    have HR5 := Lib.hid R5
    have HB5 := Lib.hid hb35
    have HA5 := Lib.hid hA5
    have HS5 := Lib.hid hS5
    have HO5 := Lib.hid hO5
    have HB := Lib.hid hownB
    clear cl5 p0' p1' p2' p3' bx4 bf4 hm4 R5 hup hA5 hS5 hO5 hownB hb5 hb35 HBX
    go_wp2_with fail
    refine (same_eq HA5.out HS5.out).mono ?_
    rintro ex W6 ⟨rfl, n6, rfl⟩
    go_wp2_with fail
    refine (same_eq (w := W5.drewN n6) (L := T) HB.out HO5.out).mono ?_
    rintro ex W7 ⟨rfl, n7, hW7⟩
    have hh : W7.heap = W5.heap := by rw [hW7]; rfl
    have hsm : ∀ S : Nat → Prop, Same S W5 W7 := fun S k _ _ => by rw [hh]
    have hc7 : ∀ a, W7.cell? a = W5.cell? a := fun a => by unfold World.cell?; rw [hh]
    have R7 := HR5.out.frame (hsm _) (hsm _) (hsm _) (hsm _)
    have r0 := (hc7 _).trans q0
    have r1 := (hc7 _).trans q1
    have r2 := (hc7 _).trans q2
    have r3 := (hc7 _).trans q3
    have rbx := (hc7 _).trans bx5
    have rbf := (hc7 _).trans bf5
    have rm := (hc7 _).trans hm5
    have hb7 : Below w.heap.size w W7 := HB5.out.trans ⟨by rw [hW7]; rfl, by rw [hW7]; rfl, by rw [hW7]; rfl, by rw [hh]; exact Nat.le_refl _, fun k _ => by rw [hh]⟩
    have h7sz : w.heap.size + 3 ≤ W7.heap.size := by rw [hh]; exact h5sz
    have HB7 := Lib.hid hb7
    have HR7 := Lib.hid R7
    have HRB := Lib.hid (And.intro r0 (And.intro r1 (And.intro r2 (And.intro r3 (And.intro rbx rbf)))))
    have hbf9 : ((W7.alloc (.cells #[.int .i64 0] 3)).alloc (.cells #[.bool true] 4)).cell? ⟨w.heap.size + 1 + 1, 0, none⟩ = some (.func (.func 154) #[] #[.pointer (some ⟨w.heap.size + 1, 0, none⟩)]) := cell_keep2 _ _ rbf
    clear hW7 hh hsm hc7 R7 r0 r1 r2 r3 rbx rbf rm hb7 q0 q1 q2 q3 bx5 bf5 hm5 h5sz
    go_wp2_with fail
    obtain ⟨r0, r1, r2, r3, rbx, rbf⟩ := HRB.out
    generalize hW9 : (W7.alloc (.cells #[.int .i64 0] 3)).alloc (.cells #[.bool true] 4) = W9
    obtain ⟨hb9, hs9, j0, j1, l0, l1⟩ := two_boxes W7 hW9
    have cl9 : ∀ b o u, W7.cell? ⟨b, o, none⟩ = some u → W9.cell? ⟨b, o, none⟩ = some u := fun b o u h => (hb9.cell (World.block_lt_of_cell? W7 _ h)).trans h
    have R9 := HR7.out.below hb9
    refine (all1KI_any R9.cache (w.heap.size + 1) (cl9 _ _ _ rbx) 109 _ (fun args W => call_all1 args W) (fun _ n W => AllAt W9 (W7.heap.size + 1) W7.heap.size n W) ?_ (fun _ _ _ h => h.drew) ?_ ?_).mono ?_
    · intro b n W hJ x hx hT
      refine hJ.turn.block x hx ?_
      rcases hT with hT | rfl
      · have := hT.2; omega
      · omega
    · exact ⟨Turn.refl _ _, j1, j0, l1, l0⟩
    · intro n e W hE hJ
      have hsame : ∀ S : Nat → Prop, (∀ x, S x → x < w.heap.size) → Same S W9 W := fun S hS x hx hs => hJ.turn.block x hx (by have := hS x hs; omega)
      have hcp : ∀ b o u, b < w.heap.size + 3 → W9.cell? ⟨b, o, none⟩ = some u → W.cell? ⟨b, o, none⟩ = some u := fun b o u hb hu => by
        rw [← hu]
        exact World.cell?_of_block (w := W9) (a := ⟨b, o, none⟩) (hJ.turn.block b (World.block_lt_of_cell? W9 _ hu) (by omega))
      have RW := R9.frame (hsame _ (fun x h => h.2)) (hsame _ (fun x h => h.2)) (hsame _ (fun x h => h.2)) (hsame _ (fun x h => h.2))
      exact all1b_any (mp := mp) (bp := w.heap.size) (bf := w.heap.size + 1 + 1) (RW.ready (hcp _ _ _ (by omega) (cl9 _ _ _ rbx))) RW.ref hJ (by omega) (hcp _ _ _ (by omega) (cl9 _ _ _ r0)) (hcp _ _ _ (by omega) (cl9 _ _ _ r1)) (hcp _ _ _ (by omega) (cl9 _ _ _ r2)) (hcp _ _ _ (by omega) (cl9 _ _ _ r3))
        (hcp _ _ _ (by omega) (cl9 _ _ _ rbf)) hE _
    · have fin : ∀ W n, AllAt W9 (W7.heap.size + 1) W7.heap.size n W → W.cell? ⟨W7.heap.size + 1, 0, none⟩ = some (.bool true) ∧ Below w.heap.size w W := fun W n hJ =>
        ⟨hJ.well, (HB7.out.trans (hb9.mono (by omega))).trans (hJ.turn.below (by omega) (fun x hx => by omega))⟩
      rintro ex W ⟨rfl, hJ⟩
      have hf : W.cell? ⟨W7.heap.size + 1, 0, none⟩ = some (.bool true) ∧ Below w.heap.size w W := by
        rcases hJ with hJ | ⟨n, hn, hJ⟩
        · exact fin _ _ hJ
        · exact fin _ _ hJ
      have hw := hf.1
      have HF := Lib.hid hf.2
      clear hJ fin hf R9 cl9 j0 j1 l0 l1 hb9 hW9 r0 r1 r2 r3 rbx rbf hbf9
      go_wp2_with fail
      go_ret
      exact ⟨rfl, HF.out⟩
  · have d0 : decide ((0 : Int) ≤ N) = true := by simpa using hN
    rcases Int.lt_or_le N T.length with hN2 | hN2
    · obtain ⟨k, rfl⟩ : ∃ k : Nat, N = k := ⟨N.toNat, by omega⟩
      have d1 : decide ((k : Int) < (T.length : Int)) = true := by simpa using hN2
      have hk : k < T.length := by omega
      have hcut := owns_cut hom k hk
      have HS := Lib.hid (show w.ownsRow 0 120 2 (.slice am k cm) (upTo (k : Int) T).length (rows (upTo (k : Int) T)) from by unfold upTo; rw [if_neg (by omega)]; exact hcut.1)
      have i0 : (0 : Int) ≤ (k : Int) := hN
      have i1 : (k : Int) ≤ (T.length : Int) := by omega
      have i2 : (k : Int) ≤ (cm : Int) := by have := hcut.2; omega
      clear hom hN hN2 hcut
      go_enter Try.func26, Try.ntmps26
      go_wp2_with fail
      refine (allKI_any c).mono ?_
      rintro ex W1 ⟨rfl, rfl⟩
      have hmX : (((w.alloc (.cells #[.pointer (some ⟨c, 0, none⟩), .pointer (some ⟨mp, 0, none⟩), .pointer (some ⟨kp, 0, none⟩), .pointer (some ⟨vp, 0, none⟩)] 66)).alloc (.cells #[.pointer (some ⟨c, 0, none⟩)] 64)).alloc (.cells #[.func (.func 154) #[] #[.pointer (some ⟨w.heap.size + 1, 0, none⟩)]] 180)).cell? ⟨mp, 1, none⟩ = some (.slice am T.length cm) := by
        have hbX := (all_boxes w c mp kp vp (.func (.func 154) #[] #[.pointer (some ⟨w.heap.size + 1, 0, none⟩)]) (t1 := 66) (t2 := 64) (t3 := 180) rfl).1
        exact (hbX.cell (World.block_lt_of_cell? w _ hmc)).trans hmc
      go_wp2_with fail
      clear hmX
      generalize hW3 : ((w.alloc (.cells #[.pointer (some ⟨c, 0, none⟩), .pointer (some ⟨mp, 0, none⟩), .pointer (some ⟨kp, 0, none⟩), .pointer (some ⟨vp, 0, none⟩)] 66)).alloc (.cells #[.pointer (some ⟨c, 0, none⟩)] 64)).alloc (.cells #[.func (.func 154) #[] #[.pointer (some ⟨w.heap.size + 1, 0, none⟩)]] 180) = W3
      obtain ⟨hb3, hs3, p0, p1, p2, p3, bx0, bf0⟩ := all_boxes w c mp kp vp _ hW3
      have R3 := HR.out.below hb3
      have hm3 := (hb3.cell (World.block_lt_of_cell? w _ hmc)).trans hmc
      refine (givenKI_any (mp := mp) (R3.ready bx0) (k : Int)).mono ?_
      rintro ex W4 ⟨va, rfl, hownA, hb4⟩
      have cl4 : ∀ b o u, W3.cell? ⟨b, o, none⟩ = some u → W4.cell? ⟨b, o, none⟩ = some u := fun b o u h => (hb4.cell (World.block_lt_of_cell? W3 _ h)).trans h
      have R4 := R3.below hb4
      have p0' := cl4 _ _ _ p0
      have p1' := cl4 _ _ _ p1
      have p2' := cl4 _ _ _ p2
      have p3' := cl4 _ _ _ p3
      have bx4 := cl4 _ _ _ bx0
      have bf4 := cl4 _ _ _ bf0
      have hm4 := cl4 _ _ _ hm3
      have HB3 := Lib.hid hb3
      have HB4 := Lib.hid hb4
      have HA := Lib.hid hownA
      have HR4 := Lib.hid R4
      have HBX := Lib.hid bx4
      clear hW3 p0 p1 p2 p3 bx0 bf0 hm3 cl4 R3 R4 hb3 hb4 hownA hmc
      go_wp2_with fail
      refine (givenKI_any (mp := mp) (HR4.out.ready HBX.out) (-1)).mono ?_
      rintro ex W5 ⟨vb, rfl, hownB, hb5⟩
      have cl5 : ∀ b o u, W4.cell? ⟨b, o, none⟩ = some u → W5.cell? ⟨b, o, none⟩ = some u := fun b o u h => (hb5.cell (World.block_lt_of_cell? W4 _ h)).trans h
      have R5 := HR4.out.below hb5
      have q0 := cl5 _ _ _ p0'
      have q1 := cl5 _ _ _ p1'
      have q2 := cl5 _ _ _ p2'
      have q3 := cl5 _ _ _ p3'
      have bx5 := cl5 _ _ _ bx4
      have bf5 := cl5 _ _ _ bf4
      have hm5 := cl5 _ _ _ hm4
      have hup : upTo (-1) (codeE KL VL E) = codeE KL VL E := by unfold upTo; rw [if_pos (by omega)]
      rw [hup, HT.out] at hownB
      have hA5 := ownsRow_same HA.out (Below.toSame hb5 (S := fun _ => True)) (fun _ _ => trivial)
      rw [HT.out] at hA5
      have hb35 : Below w.heap.size w W5 := (HB3.out.trans (HB4.out.mono (by omega))).trans (hb5.mono (by have := HB4.out.size; omega))
      have hS5 := ownsRow_same HS.out (Below.toSame hb35 (S := fun _ => True)) (fun _ _ => trivial)
      have hO5 := ownsRow_same HOM.out (Below.toSame hb35 (S := fun _ => True)) (fun _ _ => trivial)
      have h5sz : w.heap.size + 3 ≤ W5.heap.size := by have := HB4.out.size; have := hb5.size; omega
      have HR5 := Lib.hid R5
      have HB5 := Lib.hid hb35
      have HA5 := Lib.hid hA5
      have HS5 := Lib.hid hS5
      have HO5 := Lib.hid hO5
      have HB := Lib.hid hownB
      clear cl5 p0' p1' p2' p3' bx4 bf4 hm4 R5 hup hA5 hS5 hO5 hownB hb5 hb35 HBX
      go_wp2_with fail
      refine (same_eq HA5.out HS5.out).mono ?_
      rintro ex W6 ⟨rfl, n6, rfl⟩
      go_wp2_with fail
      refine (same_eq (w := W5.drewN n6) (L := T) HB.out HO5.out).mono ?_
      rintro ex W7 ⟨rfl, n7, hW7⟩
      have hh : W7.heap = W5.heap := by rw [hW7]; rfl
      have hsm : ∀ S : Nat → Prop, Same S W5 W7 := fun S k _ _ => by rw [hh]
      have hc7 : ∀ a, W7.cell? a = W5.cell? a := fun a => by unfold World.cell?; rw [hh]
      have R7 := HR5.out.frame (hsm _) (hsm _) (hsm _) (hsm _)
      have r0 := (hc7 _).trans q0
      have r1 := (hc7 _).trans q1
      have r2 := (hc7 _).trans q2
      have r3 := (hc7 _).trans q3
      have rbx := (hc7 _).trans bx5
      have rbf := (hc7 _).trans bf5
      have rm := (hc7 _).trans hm5
      have hb7 : Below w.heap.size w W7 := HB5.out.trans ⟨by rw [hW7]; rfl, by rw [hW7]; rfl, by rw [hW7]; rfl, by rw [hh]; exact Nat.le_refl _, fun k _ => by rw [hh]⟩
      have h7sz : w.heap.size + 3 ≤ W7.heap.size := by rw [hh]; exact h5sz
      have HB7 := Lib.hid hb7
      have HR7 := Lib.hid R7
      have HRB := Lib.hid (And.intro r0 (And.intro r1 (And.intro r2 (And.intro r3 (And.intro rbx rbf)))))
      have hbf9 : ((W7.alloc (.cells #[.int .i64 0] 3)).alloc (.cells #[.bool true] 4)).cell? ⟨w.heap.size + 1 + 1, 0, none⟩ = some (.func (.func 154) #[] #[.pointer (some ⟨w.heap.size + 1, 0, none⟩)]) := cell_keep2 _ _ rbf
      clear hW7 hh hsm hc7 R7 r0 r1 r2 r3 rbx rbf rm hb7 q0 q1 q2 q3 bx5 bf5 hm5 h5sz
      go_wp2_with fail
      obtain ⟨r0, r1, r2, r3, rbx, rbf⟩ := HRB.out
      generalize hW9 : (W7.alloc (.cells #[.int .i64 0] 3)).alloc (.cells #[.bool true] 4) = W9
      obtain ⟨hb9, hs9, j0, j1, l0, l1⟩ := two_boxes W7 hW9
      have cl9 : ∀ b o u, W7.cell? ⟨b, o, none⟩ = some u → W9.cell? ⟨b, o, none⟩ = some u := fun b o u h => (hb9.cell (World.block_lt_of_cell? W7 _ h)).trans h
      have R9 := HR7.out.below hb9
      refine (all1KI_any R9.cache (w.heap.size + 1) (cl9 _ _ _ rbx) 109 _ (fun args W => call_all1 args W) (fun _ n W => AllAt W9 (W7.heap.size + 1) W7.heap.size n W) ?_ (fun _ _ _ h => h.drew) ?_ ?_).mono ?_
      · intro b n W hJ x hx hT
        refine hJ.turn.block x hx ?_
        rcases hT with hT | rfl
        · have := hT.2; omega
        · omega
      · exact ⟨Turn.refl _ _, j1, j0, l1, l0⟩
      · intro n e W hE hJ
        have hsame : ∀ S : Nat → Prop, (∀ x, S x → x < w.heap.size) → Same S W9 W := fun S hS x hx hs => hJ.turn.block x hx (by have := hS x hs; omega)
        have hcp : ∀ b o u, b < w.heap.size + 3 → W9.cell? ⟨b, o, none⟩ = some u → W.cell? ⟨b, o, none⟩ = some u := fun b o u hb hu => by
          rw [← hu]
          exact World.cell?_of_block (w := W9) (a := ⟨b, o, none⟩) (hJ.turn.block b (World.block_lt_of_cell? W9 _ hu) (by omega))
        have RW := R9.frame (hsame _ (fun x h => h.2)) (hsame _ (fun x h => h.2)) (hsame _ (fun x h => h.2)) (hsame _ (fun x h => h.2))
        exact all1b_any (mp := mp) (bp := w.heap.size) (bf := w.heap.size + 1 + 1) (RW.ready (hcp _ _ _ (by omega) (cl9 _ _ _ rbx))) RW.ref hJ (by omega) (hcp _ _ _ (by omega) (cl9 _ _ _ r0)) (hcp _ _ _ (by omega) (cl9 _ _ _ r1)) (hcp _ _ _ (by omega) (cl9 _ _ _ r2)) (hcp _ _ _ (by omega) (cl9 _ _ _ r3))
          (hcp _ _ _ (by omega) (cl9 _ _ _ rbf)) hE _
      · have fin : ∀ W n, AllAt W9 (W7.heap.size + 1) W7.heap.size n W → W.cell? ⟨W7.heap.size + 1, 0, none⟩ = some (.bool true) ∧ Below w.heap.size w W := fun W n hJ =>
          ⟨hJ.well, (HB7.out.trans (hb9.mono (by omega))).trans (hJ.turn.below (by omega) (fun x hx => by omega))⟩
        rintro ex W ⟨rfl, hJ⟩
        have hf : W.cell? ⟨W7.heap.size + 1, 0, none⟩ = some (.bool true) ∧ Below w.heap.size w W := by
          rcases hJ with hJ | ⟨n, hn, hJ⟩
          · exact fin _ _ hJ
          · exact fin _ _ hJ
        have hw := hf.1
        have HF := Lib.hid hf.2
        clear hJ fin hf R9 cl9 j0 j1 l0 l1 hb9 hW9 r0 r1 r2 r3 rbx rbf hbf9
        go_wp2_with fail
        go_ret
        exact ⟨rfl, HF.out⟩
    · have d1 : decide (N < (T.length : Int)) = false := by simp; omega
      have HS := Lib.hid (show w.ownsRow 0 120 2 (.slice am T.length cm) (upTo N T).length (rows (upTo N T)) from by unfold upTo; rw [if_neg (by omega), List.take_of_length_le (by omega)]; exact hom)
      clear hom hN hN2
      go_enter Try.func26, Try.ntmps26
      go_wp2_with fail
      refine (allKI_any c).mono ?_
      rintro ex W1 ⟨rfl, rfl⟩
      have hmX : (((w.alloc (.cells #[.pointer (some ⟨c, 0, none⟩), .pointer (some ⟨mp, 0, none⟩), .pointer (some ⟨kp, 0, none⟩), .pointer (some ⟨vp, 0, none⟩)] 66)).alloc (.cells #[.pointer (some ⟨c, 0, none⟩)] 64)).alloc (.cells #[.func (.func 154) #[] #[.pointer (some ⟨w.heap.size + 1, 0, none⟩)]] 180)).cell? ⟨mp, 1, none⟩ = some (.slice am T.length cm) := by
        have hbX := (all_boxes w c mp kp vp (.func (.func 154) #[] #[.pointer (some ⟨w.heap.size + 1, 0, none⟩)]) (t1 := 66) (t2 := 64) (t3 := 180) rfl).1
        exact (hbX.cell (World.block_lt_of_cell? w _ hmc)).trans hmc
      go_wp2_with fail
      clear hmX
      generalize hW3 : ((w.alloc (.cells #[.pointer (some ⟨c, 0, none⟩), .pointer (some ⟨mp, 0, none⟩), .pointer (some ⟨kp, 0, none⟩), .pointer (some ⟨vp, 0, none⟩)] 66)).alloc (.cells #[.pointer (some ⟨c, 0, none⟩)] 64)).alloc (.cells #[.func (.func 154) #[] #[.pointer (some ⟨w.heap.size + 1, 0, none⟩)]] 180) = W3
      obtain ⟨hb3, hs3, p0, p1, p2, p3, bx0, bf0⟩ := all_boxes w c mp kp vp _ hW3
      have R3 := HR.out.below hb3
      have hm3 := (hb3.cell (World.block_lt_of_cell? w _ hmc)).trans hmc
      refine (givenKI_any (mp := mp) (R3.ready bx0) N).mono ?_
      rintro ex W4 ⟨va, rfl, hownA, hb4⟩
      have cl4 : ∀ b o u, W3.cell? ⟨b, o, none⟩ = some u → W4.cell? ⟨b, o, none⟩ = some u := fun b o u h => (hb4.cell (World.block_lt_of_cell? W3 _ h)).trans h
      have R4 := R3.below hb4
      have p0' := cl4 _ _ _ p0
      have p1' := cl4 _ _ _ p1
      have p2' := cl4 _ _ _ p2
      have p3' := cl4 _ _ _ p3
      have bx4 := cl4 _ _ _ bx0
      have bf4 := cl4 _ _ _ bf0
      have hm4 := cl4 _ _ _ hm3
      have HB3 := Lib.hid hb3
      have HB4 := Lib.hid hb4
      have HA := Lib.hid hownA
      have HR4 := Lib.hid R4
      have HBX := Lib.hid bx4
      clear hW3 p0 p1 p2 p3 bx0 bf0 hm3 cl4 R3 R4 hb3 hb4 hownA hmc
      go_wp2_with fail
      refine (givenKI_any (mp := mp) (HR4.out.ready HBX.out) (-1)).mono ?_
      rintro ex W5 ⟨vb, rfl, hownB, hb5⟩
      have cl5 : ∀ b o u, W4.cell? ⟨b, o, none⟩ = some u → W5.cell? ⟨b, o, none⟩ = some u := fun b o u h => (hb5.cell (World.block_lt_of_cell? W4 _ h)).trans h
      have R5 := HR4.out.below hb5
      have q0 := cl5 _ _ _ p0'
      have q1 := cl5 _ _ _ p1'
      have q2 := cl5 _ _ _ p2'
      have q3 := cl5 _ _ _ p3'
      have bx5 := cl5 _ _ _ bx4
      have bf5 := cl5 _ _ _ bf4
      have hm5 := cl5 _ _ _ hm4
      have hup : upTo (-1) (codeE KL VL E) = codeE KL VL E := by unfold upTo; rw [if_pos (by omega)]
      rw [hup, HT.out] at hownB
      have hA5 := ownsRow_same HA.out (Below.toSame hb5 (S := fun _ => True)) (fun _ _ => trivial)
      rw [HT.out] at hA5
      have hb35 : Below w.heap.size w W5 := (HB3.out.trans (HB4.out.mono (by omega))).trans (hb5.mono (by have := HB4.out.size; omega))
      have hS5 := ownsRow_same HS.out (Below.toSame hb35 (S := fun _ => True)) (fun _ _ => trivial)
      have hO5 := ownsRow_same HOM.out (Below.toSame hb35 (S := fun _ => True)) (fun _ _ => trivial)
      have h5sz : w.heap.size + 3 ≤ W5.heap.size := by have := HB4.out.size; have := hb5.size; omega
      have HR5 := Lib.hid R5
      have HB5 := Lib.hid hb35
      have HA5 := Lib.hid hA5
      have HS5 := Lib.hid hS5
      have HO5 := Lib.hid hO5
      have HB := Lib.hid hownB
      clear cl5 p0' p1' p2' p3' bx4 bf4 hm4 R5 hup hA5 hS5 hO5 hownB hb5 hb35 HBX
      go_wp2_with fail
      refine (same_eq HA5.out HS5.out).mono ?_
      rintro ex W6 ⟨rfl, n6, rfl⟩
      go_wp2_with fail
      refine (same_eq (w := W5.drewN n6) (L := T) HB.out HO5.out).mono ?_
      rintro ex W7 ⟨rfl, n7, hW7⟩
      have hh : W7.heap = W5.heap := by rw [hW7]; rfl
      have hsm : ∀ S : Nat → Prop, Same S W5 W7 := fun S k _ _ => by rw [hh]
      have hc7 : ∀ a, W7.cell? a = W5.cell? a := fun a => by unfold World.cell?; rw [hh]
      have R7 := HR5.out.frame (hsm _) (hsm _) (hsm _) (hsm _)
      have r0 := (hc7 _).trans q0
      have r1 := (hc7 _).trans q1
      have r2 := (hc7 _).trans q2
      have r3 := (hc7 _).trans q3
      have rbx := (hc7 _).trans bx5
      have rbf := (hc7 _).trans bf5
      have rm := (hc7 _).trans hm5
      have hb7 : Below w.heap.size w W7 := HB5.out.trans ⟨by rw [hW7]; rfl, by rw [hW7]; rfl, by rw [hW7]; rfl, by rw [hh]; exact Nat.le_refl _, fun k _ => by rw [hh]⟩
      have h7sz : w.heap.size + 3 ≤ W7.heap.size := by rw [hh]; exact h5sz
      have HB7 := Lib.hid hb7
      have HR7 := Lib.hid R7
      have HRB := Lib.hid (And.intro r0 (And.intro r1 (And.intro r2 (And.intro r3 (And.intro rbx rbf)))))
      have hbf9 : ((W7.alloc (.cells #[.int .i64 0] 3)).alloc (.cells #[.bool true] 4)).cell? ⟨w.heap.size + 1 + 1, 0, none⟩ = some (.func (.func 154) #[] #[.pointer (some ⟨w.heap.size + 1, 0, none⟩)]) := cell_keep2 _ _ rbf
      clear hW7 hh hsm hc7 R7 r0 r1 r2 r3 rbx rbf rm hb7 q0 q1 q2 q3 bx5 bf5 hm5 h5sz
      go_wp2_with fail
      obtain ⟨r0, r1, r2, r3, rbx, rbf⟩ := HRB.out
      generalize hW9 : (W7.alloc (.cells #[.int .i64 0] 3)).alloc (.cells #[.bool true] 4) = W9
      obtain ⟨hb9, hs9, j0, j1, l0, l1⟩ := two_boxes W7 hW9
      have cl9 : ∀ b o u, W7.cell? ⟨b, o, none⟩ = some u → W9.cell? ⟨b, o, none⟩ = some u := fun b o u h => (hb9.cell (World.block_lt_of_cell? W7 _ h)).trans h
      have R9 := HR7.out.below hb9
      refine (all1KI_any R9.cache (w.heap.size + 1) (cl9 _ _ _ rbx) 109 _ (fun args W => call_all1 args W) (fun _ n W => AllAt W9 (W7.heap.size + 1) W7.heap.size n W) ?_ (fun _ _ _ h => h.drew) ?_ ?_).mono ?_
      · intro b n W hJ x hx hT
        refine hJ.turn.block x hx ?_
        rcases hT with hT | rfl
        · have := hT.2; omega
        · omega
      · exact ⟨Turn.refl _ _, j1, j0, l1, l0⟩
      · intro n e W hE hJ
        have hsame : ∀ S : Nat → Prop, (∀ x, S x → x < w.heap.size) → Same S W9 W := fun S hS x hx hs => hJ.turn.block x hx (by have := hS x hs; omega)
        have hcp : ∀ b o u, b < w.heap.size + 3 → W9.cell? ⟨b, o, none⟩ = some u → W.cell? ⟨b, o, none⟩ = some u := fun b o u hb hu => by
          rw [← hu]
          exact World.cell?_of_block (w := W9) (a := ⟨b, o, none⟩) (hJ.turn.block b (World.block_lt_of_cell? W9 _ hu) (by omega))
        have RW := R9.frame (hsame _ (fun x h => h.2)) (hsame _ (fun x h => h.2)) (hsame _ (fun x h => h.2)) (hsame _ (fun x h => h.2))
        exact all1b_any (mp := mp) (bp := w.heap.size) (bf := w.heap.size + 1 + 1) (RW.ready (hcp _ _ _ (by omega) (cl9 _ _ _ rbx))) RW.ref hJ (by omega) (hcp _ _ _ (by omega) (cl9 _ _ _ r0)) (hcp _ _ _ (by omega) (cl9 _ _ _ r1)) (hcp _ _ _ (by omega) (cl9 _ _ _ r2)) (hcp _ _ _ (by omega) (cl9 _ _ _ r3))
          (hcp _ _ _ (by omega) (cl9 _ _ _ rbf)) hE _
      · have fin : ∀ W n, AllAt W9 (W7.heap.size + 1) W7.heap.size n W → W.cell? ⟨W7.heap.size + 1, 0, none⟩ = some (.bool true) ∧ Below w.heap.size w W := fun W n hJ =>
          ⟨hJ.well, (HB7.out.trans (hb9.mono (by omega))).trans (hJ.turn.below (by omega) (fun x hx => by omega))⟩
        rintro ex W ⟨rfl, hJ⟩
        have hf : W.cell? ⟨W7.heap.size + 1, 0, none⟩ = some (.bool true) ∧ Below w.heap.size w W := by
          rcases hJ with hJ | ⟨n, hn, hJ⟩
          · exact fin _ _ hJ
          · exact fin _ _ hJ
        have hw := hf.1
        have HF := Lib.hid hf.2
        clear hJ fin hf R9 cl9 j0 j1 l0 l1 hb9 hW9 r0 r1 r2 r3 rbx rbf hbf9
        go_wp2_with fail
        go_ret
        exact ⟨rfl, HF.out⟩

end Go.Proofs.Yteboancapfgdeaa.KI
