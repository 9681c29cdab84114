/- Proved here: shape, of a node. -/
import Derived.Test.YtgnffkahlniehaaGreatRtShapeP
import Derived.Test.YtgnffkahlniehaaGreatRtGiven
import Derived.Deep.RegionLaw
import Derived.Deep.AppendLies
namespace Go.Proofs.YtgnffkahlniehaaGreat
open Go Go.RowKit Go.Proofs.Gs Go.Proofs.Tri Go.Proofs.Rt Go.Proofs.Tp

/-- What stands between two rounds: the box of the shape, the kids told so far. -/
structure ShBox (w : World) (b2 b3 : Nat) (sv : Value) (here : Bool) (lv : List ByteArray) (ks : List Sh) (W : World) (kv : Value) (rs : List Sl3) : Prop where
  box : W.heap[b3]? = some (.cells #[sv, .bool here, .slice none 0 0, kv] 88 (0, 0))
  res : W.heap[b2]? = some (.cells #[.slice none 0 0, .bool false, .slice none 0 0, .slice none 0 0] 88 (0, 0))
  len : rs.length = ks.length
  own : W.ownsRow w.heap.size 88 4 kv rs.length (shCells rs ks)
  apart : kv.ownBlock ≠ some b2 ∧ kv.ownBlock ≠ some b3
  lvs : StrsF (fun x => w.heap.size ≤ x ∧ x < W.heap.size ∧ x ≠ b2 ∧ x ≠ b3 ∧ some x ≠ kv.ownBlock) W sv lv
  kids : ∀ (i : Nat) (r : Sl3) (k : Sh), rs[i]? = some r → ks[i]? = some k → ShAt (fun x => w.heap.size ≤ x ∧ x < W.heap.size ∧ x ≠ b2 ∧ x ≠ b3 ∧ some x ≠ kv.ownBlock) W r k
  low : w.heap.size ≤ b2 ∧ w.heap.size ≤ b3 ∧ b2 ≠ b3
  below : Below w.heap.size w W

/-- Ready for the first kid. -/
theorem shBox_start {w W2 W : World} {b2 b3 : Nat} {here : Bool} {asv : Option Addr} {csv : Nat} {lv : List ByteArray} (hb : Below w.heap.size w W) (h2 : W.heap[b2]? = some (.cells #[.slice none 0 0, .bool false, .slice none 0 0, .slice none 0 0] 88 (0, 0))) (h3 : W.heap[b3]? = some (.cells #[.slice asv lv.length csv, .bool here, .slice none 0 0, .slice none 0 0] 88 (0, 0)))
    (hlow : w.heap.size ≤ b2 ∧ w.heap.size ≤ b3 ∧ b2 ≠ b3) {B : Nat} (hown : W2.ownsRow B 9 1 (.slice asv lv.length csv) lv.length (lv.map Value.string)) (hB : w.heap.size ≤ B ∧ b2 < B ∧ (b3 < B ∨ W2.heap.size ≤ b3)) (hk : ∀ k, B ≤ k → k < W2.heap.size → W.heap[k]? = W2.heap[k]?) (hsz : W2.heap.size ≤ W.heap.size) :
    ShBox w b2 b3 (.slice asv lv.length csv) here lv [] W (.slice none 0 0) [] := by
  have h0 := RowF.of_owns (F := fun x => B ≤ x ∧ x < W2.heap.size) hown (fun g h1 h2 => ⟨h1, h2⟩)
  refine ⟨h3, h2, rfl, World.ownsRow_nil _ _ _ _, ⟨by simp [Value.ownBlock], by simp [Value.ownBlock]⟩, ?_, fun i r k h _ => by simp at h, hlow, hb⟩
  exact (h0.keep (fun k hk' hF => hk k hF.1 hF.2)).mono (fun x hx => ⟨by omega, by omega, by omega, by omega, by simp [Value.ownBlock]⟩)

theorem shBox_next {w W w5 w6 : World} {b2 b3 n g cap : Nat} {here : Bool} {sv kv : Value} {lv : List ByteArray} {ks : List Sh} {rs : List Sl3} {r : Sl3} {k : Sh} {o : Obj} (h : ShBox w b2 b3 sv here lv ks W kv rs) (hb5 : Below W.heap.size W w5) (hs : ShAt (Fresh W w5) w5 r k) (hrs : rs.length = n)
    (hgrow : (w5.alloc o).grownBy w6 kv.ownBlock) (hown : w6.ownsRow w.heap.size 88 4 (.slice (some ⟨g, 0, none⟩) (n + 1) cap) (n + 1) (shCells rs ks ++ shCell r k)) (hat : kv.ownBlock = some g ∨ g = w5.heap.size + 1) :
    w6.heap[b3]? = some (.cells #[sv, .bool here, .slice none 0 0, kv] 88 (0, 0)) ∧ ShBox w b2 b3 sv here lv (ks ++ [k]) (w6.setCell ⟨b3, 3, none⟩ (.slice (some ⟨g, 0, none⟩) (n + 1) cap)) (.slice (some ⟨g, 0, none⟩) (n + 1) cap) (rs ++ [r]) := by
  have hlt3 : b3 < W.heap.size := (Array.getElem?_eq_some_iff.1 h.box).1
  have hlt2 : b2 < W.heap.size := (Array.getElem?_eq_some_iff.1 h.res).1
  have hrow : ∀ b, kv.ownBlock = some b → w.heap.size ≤ b ∧ b < W.heap.size := fun b e => owned_lt h.own e
  have hs5 := hb5.size
  have hs6 : w5.heap.size + 1 ≤ w6.heap.size := by have := hgrow.size; simp at this; omega
  have k6 : ∀ x, x < w5.heap.size → some x ≠ kv.ownBlock → w6.heap[x]? = w5.heap[x]? := fun x hx hne => (hgrow.block x (by simp; omega) hne).trans (Below.heap_alloc w5 o x hx)
  have kW : ∀ x, x < W.heap.size → some x ≠ kv.ownBlock → w6.heap[x]? = W.heap[x]? := fun x hx hne => (k6 x (by omega) hne).trans (hb5.block x hx)
  have hbox6 := (kW b3 hlt3 (fun e => h.apart.2 e.symm)).trans h.box
  have hset : ∀ x, x ≠ b3 → (w6.setCell ⟨b3, 3, none⟩ (.slice (some ⟨g, 0, none⟩) (n + 1) cap)).heap[x]? = w6.heap[x]? := fun x hx => Below.heap_setCell w6 ⟨b3, 3, none⟩ _ x hx
  have hsz : (w6.setCell ⟨b3, 3, none⟩ (.slice (some ⟨g, 0, none⟩) (n + 1) cap)).heap.size = w6.heap.size := by simp [World.setCell]
  have hg2 : g ≠ b2 ∧ g ≠ b3 := by
    rcases hat with e | e
    · exact ⟨fun x => h.apart.1 (x ▸ e), fun x => h.apart.2 (x ▸ e)⟩
    · omega
  have hnew : ∀ x, x < w5.heap.size → some x ≠ kv.ownBlock → x ≠ g := fun x hx hne e => by
    rcases hat with h1 | h1
    · exact hne (by rw [h1, e])
    · omega
  refine ⟨hbox6, heap_setCell_same w6 b3 3 _ _ _ hbox6, (hset b2 h.low.2.2).trans ((kW b2 hlt2 (fun e => h.apart.1 e.symm)).trans h.res), by simp [h.len], ?_, ⟨by simpa [Value.ownBlock] using hg2.1, by simpa [Value.ownBlock] using hg2.2⟩, ?_, ?_, h.low, ?_⟩
  · rw [shCells_app h.len]
    have hl : (rs ++ [r]).length = n + 1 := by simp [hrs]
    rw [hl]
    obtain ⟨h0, h1⟩ := hown
    refine ⟨h0, ?_⟩
    rcases h1 with h1 | ⟨g', cap', cur, e1, e2, e3, e4⟩
    · exact .inl h1
    · refine .inr ⟨g', cap', cur, e1, e2, (hset g' ?_).trans e3, e4⟩
      injection e1 with e1
      injection e1 with e1
      injection e1 with e1
      omega
  · exact (h.lvs.keep (fun x hx hF => (hset x hF.2.2.2.1).trans (kW x hx hF.2.2.2.2))).mono (fun x hx => ⟨hx.1, by omega, hx.2.2.1, hx.2.2.2.1, by have := hnew x (by omega) hx.2.2.2.2; simpa [Value.ownBlock] using this⟩)
  · intro i r' k' h1 h2
    by_cases hi : i < rs.length
    · rw [List.getElem?_append_left hi] at h1
      rw [List.getElem?_append_left (by rw [← h.len]; exact hi)] at h2
      exact ((h.kids i r' k' h1 h2).keep (fun x hx hF => (hset x hF.2.2.2.1).trans (kW x hx hF.2.2.2.2))).mono (fun x hx => ⟨hx.1, by omega, hx.2.2.1, hx.2.2.2.1, by have := hnew x (by omega) hx.2.2.2.2; simpa [Value.ownBlock] using this⟩)
    · rw [List.getElem?_append_right (by omega)] at h1
      rw [List.getElem?_append_right (by rw [← h.len]; omega), ← h.len] at h2
      have hi0 : i - rs.length = 0 := by have := (List.getElem?_eq_some_iff.1 h1).1; simp at this; omega
      rw [hi0] at h1 h2
      injection h1 with h1
      injection h2 with h2
      subst h1; subst h2
      have hne : ∀ x, Fresh W w5 x → some x ≠ kv.ownBlock := fun x hx e => by have := (hrow x e.symm).2; have := hx.1; omega
      have hwW := h.below.size
      exact (hs.keep (fun x hx hF => (hset x (by have := hF.1; omega)).trans (k6 x hx (hne x hF)))).mono (fun x hx => ⟨by have := hx.1; omega, by have := hx.2; omega, by have := hx.1; omega, by have := hx.1; omega, by have := hnew x hx.2 (hne x hx); simpa [Value.ownBlock] using this⟩)
  · refine Below.setCell (p := ⟨b3, 3, none⟩) ?_ h.low.2.1 _
    have hwW := h.below.size
    exact ((h.below.trans (hb5.mono hwW)).alloc (by omega) o).grown hgrow (by simp; omega) (fun b e => (hrow b e).1)

theorem infoShape : (Tryz.prog.info? 88).map (fun i => (i.zero, i.size, i.bytes)) = some (some (.agg #[.slice none 0 0, .bool false, .slice none 0 0, .slice none 0 0]), 4, 80) := by kernel_rfl

theorem below_set4 {B b : Nat} {w w' : World} (h : Below B w w') (hb : B ≤ b) (x0 x1 x2 x3 : Value) : Below B w ((((w'.setCell ⟨b, 0, none⟩ x0).setCell ⟨b, 1, none⟩ x1).setCell ⟨b, 2, none⟩ x2).setCell ⟨b, 3, none⟩ x3) :=
  (((h.setCell (p := ⟨b, 0, none⟩) hb _).setCell (p := ⟨b, 1, none⟩) hb _).setCell (p := ⟨b, 2, none⟩) hb _).setCell (p := ⟨b, 3, none⟩) hb _

theorem cell4 {w : World} {b : Nat} {cs : Array Value} {t : TypeId} (h : w.heap[b]? = some (.cells cs t (0, 0))) (j : Nat) (u : Value) (hu : cs[j]? = some u) : w.cell? ⟨b, j, none⟩ = some u := by
  unfold World.cell?; simp only; rw [h]; simpa using hu

set_option maxHeartbeats 4000000 in
set_option maxRecDepth 100000 in
theorem shape_any : ∀ (t : Tree) (F : Nat → Prop) (w : World) (p : Nat), NodeAt F w p t → Forest ltB t.kids → Lim t → t.lv.length ≤ 1000000001 →
    Calls Tryz.prog 73 #[.pointer (some ⟨p, 0, none⟩)] w fun e w' => ∃ sv ev kv, e = .returned (.agg #[sv, .bool t.val.isSome, ev, kv]) ∧ ShAt (Fresh w w') w' (sv, ev, kv) (shOf t) ∧ Below w.heap.size w w' := by
  refine Tr.ind (fun lv v ks ih => ?_)
  intro F w p h hfo hli hlv
  obtain ⟨sv, mv, kv, bs, O⟩ := h.open
  obtain ⟨a1, c1, x1, a2, c2', rfl, rfl, rfl⟩ := open_shapes O
  have hl := O.hl
  rw [Tr.kids_node] at hl hfo
  rw [Tr.lv_node] at hlv
  have hkn := hli.kids (by rw [Tr.kids_node]; exact hfo)
  rw [Tr.kids_node] at hkn
  obtain ⟨hb', hhere⟩ : ∃ hb' : Bool, v.isSome = hb' := ⟨_, rfl⟩
  have hx1 : (x1 = none ∧ hb' = false) ∨ (∃ mb, x1 = some ⟨mb, 0, none⟩ ∧ hb' = true) := by
    have hm := O.hm
    rw [Tr.val_node] at hm
    cases v with
    | none => simp [MsgPtr] at hm; exact .inl ⟨hm, by rw [← hhere]; rfl⟩
    | some m => obtain ⟨mb, e, _⟩ := hm; exact .inr ⟨mb, by simpa using e, by rw [← hhere]; rfl⟩
  have hsh : shOf (Tr.node lv v ks) = .node lv hb' [] (ks.map shOf) := by rw [shOf_node, hhere]
  rw [hsh, Tr.val_node, hhere]
  have HO := Lib.hid O
  have hstr : RowAt w 1 (.slice a1 lv.length c1) lv.length (lv.map Value.string) := O.hsf.1
  have HSTR := Lib.hid hstr
  have c0 : w.cell? ⟨p, 0, none⟩ = some (.slice a1 lv.length c1) := O.c0
  have c1x := O.c1
  obtain ⟨n, hnb⟩ : ∃ n, bs.length = n := ⟨_, rfl⟩
  have HNB := Lib.hid hnb
  have HL := Lib.hid hl
  have hkid : ∀ j b k, bs[j]? = some b → ks[j]? = some k → ∀ W, Below w.heap.size w W → Calls Tryz.prog 73 #[.pointer (some ⟨b, 0, none⟩)] W fun e w' => ∃ sv ev kv, e = .returned (.agg #[sv, .bool k.val.isSome, ev, kv]) ∧ ShAt (Fresh W w') w' (sv, ev, kv) (shOf k) ∧ Below W.heap.size W w' := fun j b k h1 h2 W hb => by
    have hmem := List.mem_of_getElem? h2
    exact ih k hmem F W b (NodeAt.keep hb (O.hn j b k h1 h2)) (hfo.ok k hmem).forest (hli.kid hmem).1 (hli.lv (by rw [Tr.kids_node]; exact hfo) hmem)
  have HKID := Lib.hid hkid
  have g0 := (MapKept.heap_alloc w (.cells #[.slice none 0 0, .bool false, .slice none 0 0, .slice none 0 0] 88)).1
  have hb0 : Below w.heap.size w (w.alloc (.cells #[.slice none 0 0, .bool false, .slice none 0 0, .slice none 0 0] 88)) := (Below.refl _ _).alloc (Nat.le_refl _) _
  have hs0 : (w.alloc (.cells #[.slice none 0 0, .bool false, .slice none 0 0, .slice none 0 0] 88)).heap.size = w.heap.size + 1 := by simp
  have d0 := cell_below hb0 c0
  have d1 := cell_below hb0 c1x
  clear hsh hhere O h ih hfo hli hl hnb hkid hstr c0 c1x
  have hcmp : ∀ W : World, (binOp .neq 57 (.pointer x1) (.pointer none)).run Tryz.prog W = .ok (.bool hb') W := fun W => by
    rcases hx1 with ⟨rfl, rfl⟩ | ⟨mb, rfl, rfl⟩ <;> simp [go_sem]
  clear hx1
  go_enter Tryz.func73, Tryz.ntmps73
  go_wp2_with fail
  generalize w.alloc (.cells #[.slice none 0 0, .bool false, .slice none 0 0, .slice none 0 0] 88) = W0 at g0 hb0 hs0 d0 d1 ⊢
  have HKS := Lib.hid (show ∀ w' : World, Below W0.heap.size W0 w' → (w'.cell? ⟨p, 0, none⟩ = some (.slice a1 lv.length c1) ∧ w'.cell? ⟨p, 1, none⟩ = some (.pointer x1)) from fun w' h => ⟨cell_below h d0, cell_below h d1⟩)
  have hR1 : RowAt W0.drew 1 (.slice a1 lv.length c1) lv.length (lv.map Value.string) := (RowAt.below HSTR.out hb0).below ((Below.refl W0.heap.size W0).drew)
  have hR2 : RowAt (W0.drew.alloc (.cells #[.slice none 0 0, .bool false, .slice none 0 0, .slice none 0 0] 88)) 1 (.slice a1 lv.length c1) lv.length (lv.map Value.string) := hR1.below ((Below.refl _ _).alloc (Nat.le_refl _) _)
  go_wp2_with fail
  first
    | (go_region_held3 (fun w' => w'.cell? ⟨p, 0, none⟩ = some (.slice a1 lv.length c1) ∧ w'.cell? ⟨p, 1, none⟩ = some (.pointer x1))
        (first
          | go_keep
          | exact HKS.out _ ((Below.refl _ _).drew)
          | exact HKS.out _ (((Below.refl _ _).drew).alloc (Nat.le_refl _) _)
          | exact HKS.out _ HB2.out
          | exact HKS.out _ (HB2.out.alloc HB2.out.size _)
          | exact HKS.out _ (below_set4 HB2.out (by omega) _ _ _ _)
          | exact HKS.out _ (below_set4 (HB2.out.alloc HB2.out.size _) HB2.out.size _ _ _ _)
          | fail "keep")
        (first
          | (go_at_call 58; (first | refine (cloneS_any hR1 hlv (str_one _)).mono ?_ | refine (cloneS_any hR2 hlv (str_one _)).mono ?_); rintro e w2 ⟨sv2, rfl, hown2, hb2⟩; obtain ⟨asv, csv, rfl⟩ := owns_slice hown2; (try (have q := (hb2.block W0.heap.size (by show W0.heap.size < (W0.drew.alloc (.cells #[.slice none 0 0, .bool false, .slice none 0 0, .slice none 0 0] 88)).heap.size; simp)).trans (MapKept.heap_alloc W0.drew (.cells #[.slice none 0 0, .bool false, .slice none 0 0, .slice none 0 0] 88)).1; rw [hs0] at q; have q0 := cell4 q 0 _ rfl; have q1 := cell4 q 1 _ rfl; have q2 := cell4 q 2 _ rfl; have q3 := cell4 q 3 _ rfl; have qf := fun j => frozen_of_row w2 _ j _ _ q)); have HB2 := Lib.hid (show Below W0.heap.size W0 w2 from by first | exact ((Below.refl _ W0).drew).trans hb2 | exact (((Below.refl _ W0).drew).alloc (Nat.le_refl _) _).trans (hb2.mono (by simp))); have HOW2 := Lib.hid hown2; clear hown2 hb2)
          | fail "arm"))
    | fail "x"
  all_goals
    first
      | (have hst := shBox_start (w := w) (W2 := w2) (b2 := w.heap.size) (b3 := w2.heap.size) (here := hb') (hb0.trans ((HB2.out.alloc HB2.out.size (.cells #[.slice asv lv.length csv, .bool hb', .slice none 0 0, .slice none 0 0] 88)).mono (by omega))) ((Below.heap_alloc _ _ _ (by have := HB2.out.size; omega)).trans ((HB2.out.block _ (by omega)).trans g0)) (MapKept.heap_alloc w2 _).1
          ⟨Nat.le_refl _, by have := HB2.out.size; omega, by have := HB2.out.size; omega⟩ HOW2.out ⟨by show w.heap.size ≤ W0.heap.size; omega, by show w.heap.size < W0.heap.size; omega, .inr (Nat.le_refl _)⟩ (fun k _ h2 => Below.heap_alloc _ _ _ h2) (by simp)
         generalize w2.alloc (.cells #[.slice asv lv.length csv, .bool hb', .slice none 0 0, .slice none 0 0] 88) = W3 at hst ⊢
         generalize w2.heap.size = b3 at hst ⊢)
      | (obtain ⟨W3, hW3⟩ : ∃ W3, (((w2.setCell ⟨w.heap.size + 1, 0, none⟩ (.slice asv lv.length csv)).setCell ⟨w.heap.size + 1, 1, none⟩ (.bool hb')).setCell ⟨w.heap.size + 1, 2, none⟩ (.slice none 0 0)).setCell ⟨w.heap.size + 1, 3, none⟩ (.slice none 0 0) = W3 := ⟨_, rfl⟩
         obtain ⟨g4, b4, s4⟩ := set4 q hW3
         have o4 : ∀ k, k ≠ w.heap.size + 1 → W3.heap[k]? = w2.heap[k]? := fun k hk => by
           rw [← hW3]
           exact (heap_setCell_other _ _ _ _ hk).trans ((heap_setCell_other _ _ _ _ hk).trans ((heap_setCell_other _ _ _ _ hk).trans (heap_setCell_other _ _ _ _ hk)))
         rw [hW3]
         have hst := shBox_start (w := w) (W2 := w2) (W := W3) (b2 := w.heap.size) (b3 := w.heap.size + 1) (here := hb') ((hb0.trans (HB2.out.mono (by omega))).trans (b4 _ (by omega))) ((o4 _ (by omega)).trans ((HB2.out.block _ (by omega)).trans g0)) g4
           ⟨Nat.le_refl _, by omega, by omega⟩ HOW2.out ⟨by simp; omega, by simp; omega, .inl (by simp; omega)⟩ (fun k h1 _ => o4 k (by simp at h1; omega)) (by omega)
         clear q q0 q1 q2 q3 qf g4 b4 s4 o4 hW3
         generalize w.heap.size + 1 = b3 at hst ⊢)
      | fail "start"
    have HST := Lib.hid hst
    have kc : W3.cell? ⟨p, 2, none⟩ = some (.slice a2 n c2') := by rw [← HNB.out]; exact cell_below hst.below HO.out.c2
    clear hst HKS HB2 HOW2 hR1 hR2
    go_wp2_with fail
    go_loopg [5, 22] n (fun gg k5 i5 wr => ∃ (j : Nat) (kv : Value) (rs : List Sl3), j + gg = n ∧ i5 = .int .i64 (j : Nat) ∧ ShBox w w.heap.size b3 (.slice asv lv.length csv) hb' lv ((ks.take j).map shOf) wr kv rs)
    case atStart => exact ⟨0, _, _, by omega, rfl, by simpa using HST.out⟩
    case round =>
      obtain ⟨j, kv, rs, hj, rfl, hbx⟩ := hrel
      have HBX := Lib.hid hbx
      clear hbx
      cases gk with
      | zero =>
        obtain rfl : j = n := by omega
        have hd : decide ((j : Int) < (j : Int)) = false := decide_eq_false (by omega)
        obtain ⟨akv, ckv, rfl⟩ := owns_slice HBX.out.own
        have z0 := cell4 HBX.out.box 0 _ rfl
        have z1 := cell4 HBX.out.box 1 _ rfl
        have z2 := cell4 HBX.out.box 2 _ rfl
        have z3 := cell4 HBX.out.box 3 _ rfl
        have y0 := cell4 HBX.out.res 0 _ rfl
        have y1 := cell4 HBX.out.res 1 _ rfl
        have y2 := cell4 HBX.out.res 2 _ rfl
        have y3 := cell4 HBX.out.res 3 _ rfl
        have yf := fun j => frozen_of_row wr w.heap.size j _ _ HBX.out.res
        go_wp2_with fail
        obtain ⟨W4, hW4⟩ : ∃ W4, (((wr.setCell ⟨w.heap.size, 0, none⟩ (.slice asv lv.length csv)).setCell ⟨w.heap.size, 1, none⟩ (.bool hb')).setCell ⟨w.heap.size, 2, none⟩ (.slice none 0 0)).setCell ⟨w.heap.size, 3, none⟩ (.slice akv rs.length ckv) = W4 := ⟨_, rfl⟩
        obtain ⟨g4, b4, s4⟩ := set4 HBX.out.res hW4
        have o4 : ∀ k, k ≠ w.heap.size → W4.heap[k]? = wr.heap[k]? := fun k hk => by
          rw [← hW4]
          exact (heap_setCell_other _ _ _ _ hk).trans ((heap_setCell_other _ _ _ _ hk).trans ((heap_setCell_other _ _ _ _ hk).trans (heap_setCell_other _ _ _ _ hk)))
        rw [hW4]
        clear hW4 y0 y1 y2 y3 z0 z1 z2 z3
        have z0 := cell4 g4 0 _ rfl
        have z1 := cell4 g4 1 _ rfl
        have z2 := cell4 g4 2 _ rfl
        have z3 := cell4 g4 3 _ rfl
        have hlen : (ks.take j).length = j := by rw [List.length_take]; have := HNB.out; have := HL.out; omega
        have htk : ks.take j = ks := List.take_of_length_le (by have := HNB.out; have := HL.out; omega)
        have hrs : rs.length = (ks.map shOf).length := by rw [HBX.out.len, htk]
        have hfin : ShAt (Fresh w W4) W4 (.slice asv lv.length csv, .slice none 0 0, .slice akv rs.length ckv) (.node lv hb' [] (ks.map shOf)) := by
          have hB := HBX.out
          rw [htk] at hB
          have hsz := hB.below.size
          refine .mk lv hb' [] (ks.map shOf) _ _ _ rs ?_ (rowF_nil _ _ _) hrs ?_ (fun i r k h1 h2 => ?_)
          · exact (hB.lvs.keep (fun k hk hF => o4 k hF.2.2.1)).mono (fun x hx => ⟨hx.1, by omega⟩)
          · have h0 : RowF (fun x => w.heap.size ≤ x ∧ x < wr.heap.size ∧ some x = (Value.slice akv rs.length ckv).ownBlock) wr 4 (.slice akv rs.length ckv) rs.length _ := ⟨RowAt.of_owns hB.own, fun b e => ⟨(owned_lt hB.own e).1, (owned_lt hB.own e).2, e.symm⟩⟩
            exact (h0.keep (fun k hk hF => o4 k (fun e => hB.apart.1 (e ▸ hF.2.2.symm)))).mono (fun x hx => ⟨hx.1, by have := hx.2.1; omega⟩)
          · exact ((hB.kids i r k h1 h2).keep (fun k hk hF => o4 k hF.2.2.1)).mono (fun x hx => ⟨hx.1, by omega⟩)
        have HFIN := Lib.hid hfin
        have HBB := Lib.hid (HBX.out.below.trans (b4 _ (Nat.le_refl _)))
        refine bodyPost_ret (v := .agg #[.slice asv lv.length csv, .bool hb', .slice none 0 0, .slice akv rs.length ckv]) (by simp [results, Tryz.results73, go_sem, z0, z1, z2, z3]) rfl ?_
        exact ⟨_, _, _, rfl, HFIN.out, HBB.out⟩
      | succ gk =>
        have hjn : j < n := by omega
        have hd : decide ((j : Int) < (n : Int)) = true := decide_eq_true (by omega)
        have hb1 : (0 : Int) ≤ (j : Int) := by omega
        have hb2 : (j : Int) < (n : Int) := by omega
        obtain ⟨b, g1⟩ : ∃ b, bs[j]? = some b := ⟨_, List.getElem?_eq_getElem (show j < bs.length by have := HNB.out; omega)⟩
        obtain ⟨k, g2⟩ : ∃ k, ks[j]? = some k := ⟨_, List.getElem?_eq_getElem (show j < ks.length by have := HNB.out; have := HL.out; omega)⟩
        obtain ⟨cb, off, rfl, hc⟩ : ∃ cb off, a2 = some ⟨cb, off, none⟩ ∧ ∀ i u, (bs.map ptrV)[i]? = some u → w.cell? ⟨cb, off + i, none⟩ = some u := by
          rcases RowAt.cases HO.out.hk with ⟨h8, _⟩ | ⟨_, cb, off, cap, e, _, _, _, h⟩
          · have := HNB.out; omega
          · injection e with e1 e2 e3
            exact ⟨cb, off, e1, h⟩
        have kk := cell_below HBX.out.below (hc j (ptrV b) (by rw [List.getElem?_map, g1]; rfl))
        unfold ptrV at kk
        have HCALL := Lib.hid (HKID.out j b k g1 g2)
        have hrs : rs.length = j := by rw [HBX.out.len, List.length_map, List.length_take]; have := HNB.out; have := HL.out; omega
        have hown := HBX.out.own
        rw [hrs] at hown
        obtain ⟨akv, ckv, rfl⟩ := owns_slice hown
        have hk3 := cell4 HBX.out.box 3 _ rfl
        have HG2 := Lib.hid g2
        have HRS := Lib.hid hrs
        obtain ⟨i0, hi, hz0, hz1, hz2⟩ := info_parts infoShape
        have HOWN := Lib.hid hown
        have hj6 : j + 1 ≤ 1000000 := by have := HNB.out; have := HL.out; omega
        clear hc g1 g2 hrs hown
        go_upto_region 5 with fail
        go_region_law (first
          | (go_simp; go_at_call 73; refine (HCALL.out _ (HBX.out.below.drew)).mono ?_; rintro e w5 ⟨sv5, ev5, kv5, rfl, hsh5, hb5⟩; obtain ⟨a51, n51, c51, a52, n52, c52, a53, n53, c53, he5⟩ := hsh5.slices; injection he5 with he51 he52; injection he52 with he52 he53; subst he51; subst he52; subst he53; have HSH5 := Lib.hid hsh5; have HB5 := Lib.hid (show Below wr.heap.size wr w5 from ((Below.refl _ wr).drew).trans hb5); have c5 := cell_below HB5.out hk3; have c5' := cell_below ((Below.refl _ w5).alloc (Nat.le_refl _) (.cells #[.slice a51 n51 c51, .bool k.val.isSome, .slice a52 n52 c52, .slice a53 n53 c53] 88)) c5; have hown5 := owns_below HOWN.out HB5.out; have hsz5 : w.heap.size ≤ w5.heap.size := Nat.le_trans HBX.out.below.size HB5.out.size; clear hsh5 hb5)
          | (refine step_append_lies _ (by rfl) _ _ _ (by rfl) w.heap.size 88 i0 (.agg #[.slice none 0 0, .bool false, .slice none 0 0, .slice none 0 0]) 4 80 Tryz.underlying86 hi hz0 hz1 hz2 rfl (by omega) _ _ _ (by rfl) (hown5.alloc _) ⟨w5.heap.size, 0, none⟩ 1 1 [.slice a51 n51 c51, .bool k.val.isSome, .slice a52 n52 c52, .slice a53 n53 c53] (by rfl) (by rfl) (cells_new _ _ _) (by simp [Value.oneCell']) (by omega) (by unfold maxLen; omega) (by omega) (by simp; omega) (w5.heap.size + 1) (by simp) ?_; intro g cap w6 hown6 hgrow6 hat6 hlt6; obtain ⟨hbx6, hnx6⟩ := shBox_next HBX.out HB5.out (k := shOf k) (r := (.slice a51 n51 c51, .slice a52 n52 c52, .slice a53 n53 c53)) HSH5.out HRS.out hgrow6 (by have h := hown6; unfold shCell; rw [shOf_here]; exact h) hat6; have d6 := cell4 hbx6 3 _ rfl; have f6 := fun j => frozen_of_row w6 b3 j _ _ hbx6; have HNX := Lib.hid hnx6; clear hown6 hgrow6 hat6 hlt6 hbx6 hnx6))
        all_goals
          obtain ⟨W7, hW7⟩ : ∃ W7, w6.setCell ⟨b3, 3, none⟩ (.slice (some ⟨g, 0, none⟩) (j + 1) cap) = W7 := ⟨_, rfl⟩
          have hnx := HNX.out
          rw [hW7] at hnx ⊢
          have HNX7 := Lib.hid hnx
          clear hnx hW7 d6 f6 HNX
          go_wp2_with fail
          go_roundg gk
          case measure => omega
          case rel => exact ⟨j + 1, _, _, by omega, by go_num, by rw [List.take_add_one, HG2.out, List.map_append]; exact HNX7.out⟩
end Go.Proofs.YtgnffkahlniehaaGreat
