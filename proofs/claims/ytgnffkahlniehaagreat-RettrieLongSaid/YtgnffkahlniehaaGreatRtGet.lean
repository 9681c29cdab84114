/- Proved here: Get, a topic's message. -/
import Derived.Test.YtgnffkahlniehaaGreatRtTrie
import Derived.Test.YtgnffkahlniehaaGreatTpAll
import Derived.Deep.RegionHeld3
import Derived.Carry
import Derived.BigRegion
namespace Go.Proofs.YtgnffkahlniehaaGreat
open Go Go.RowKit Go.Proofs.Gs Go.Proofs.Tri Go.Proofs.Rt Go.Proofs.Tp

/-- No payload is too long to be copied. -/
def Short (t : Tree) : Prop := ∀ e ∈ body t, e.2.pay.length ≤ 1000000000

/-- The message at a path, where the node stands. -/
theorem at_some {F : Nat → Prop} {w : World} {p : Nat} {t n : Tree} (G : Good F w p t) {path : List ByteArray} (hpl : path.length ≤ 1000000001) (hn : nodeAt ltB t path = some n) (W : World) (hb : Below w.heap.size w W) (pv : Value) (hp : StrsAt W pv path) :
    Calls Tryz.prog 52 #[.pointer (some ⟨p, 0, none⟩), pv] W fun e w' => ∃ q, e = .returned (.pointer (some ⟨q, 0, none⟩)) ∧ Good F w' q n ∧ Below w.heap.size w w' ∧ w'.heap = W.heap := by
  refine (at_any (G.below hb) hp hpl).mono ?_
  rintro e w' ⟨h1, m, rfl⟩
  rw [hn] at h1
  obtain ⟨q, rfl, hg⟩ := h1
  exact ⟨q, rfl, hg.below (below_drew W m), hb.trans ((below_drew W m).mono hb.size), rfl⟩

theorem at_none {F : Nat → Prop} {w : World} {p : Nat} {t : Tree} (G : Good F w p t) {path : List ByteArray} (hpl : path.length ≤ 1000000001) (hn : nodeAt ltB t path = none) (W : World) (hb : Below w.heap.size w W) (pv : Value) (hp : StrsAt W pv path) :
    Calls Tryz.prog 52 #[.pointer (some ⟨p, 0, none⟩), pv] W fun e w' => e = .returned (.pointer none) ∧ Below w.heap.size w w' ∧ w'.heap = W.heap := by
  refine (at_any (G.below hb) hp hpl).mono ?_
  rintro e w' ⟨h1, m, rfl⟩
  rw [hn] at h1
  exact ⟨h1, hb.trans ((below_drew W m).mono hb.size), rfl⟩

def MsgShape (v : Value) : Prop := ∃ tt a n c q r, v = .agg #[.string tt, .slice a n c, .int .i64 q, .bool r]

/-- What Get answers. -/
def GetPost (w : World) (r : Option MsgV) (e : Ending) (w' : World) : Prop :=
  (∃ v, MsgShape v ∧ e = .returned (.tuple #[v, .bool r.isSome]) ∧ ∀ m, r = some m → MsgVal (Fresh w w') w' v m) ∧ Below w.heap.size w w'

set_option maxHeartbeats 4000000 in
set_option maxRecDepth 100000 in
theorem get_any {F : Nat → Prop} {w : World} {tb : Nat} {t : Tree} (T : TrieAt F w tb t) (hsh : Short t) (s : ByteArray) (hs : s.size ≤ 1000000000) :
    Calls Tryz.prog 25 #[.pointer (some ⟨tb, 0, none⟩), .string s] w (GetPost w (get (levels s) (body t))) := by
  obtain ⟨p, hp, hn⟩ := T.root
  have hl := levels_len s hs
  have hspec := nodeAt_spec linB (levels s).length (levels s) t (Nat.le_refl _) T.forest
  have HSP := Lib.hid hspec
  have HG := Lib.hid (show Good F w p t from ⟨hn, T.forest, T.lim⟩)
  have HL := Lib.hid hl
  have HT := Lib.hid T
  clear hspec hn T hl
  cases hna : nodeAt ltB t (levels s) with
  | none =>
    have HAT := Lib.hid (at_none HG.out HL.out.2 hna)
    have hgn : get (levels s) (body t) = none := by rw [← HSP.out, hna]; rfl
    rw [hgn]
    clear hgn hna
    go_enter Tryz.func25, Tryz.ntmps25
    go_wp2_with fail
    have g0 := (MapKept.heap_alloc w (.cells #[.string ⟨#[]⟩, .slice none 0 0, .int .i64 0, .bool false] 36)).1
    have hb0 : Below w.heap.size w (w.alloc (.cells #[.string ⟨#[]⟩, .slice none 0 0, .int .i64 0, .bool false] 36)) := (Below.refl _ _).alloc (Nat.le_refl _) _
    have hs0 : (w.alloc (.cells #[.string ⟨#[]⟩, .slice none 0 0, .int .i64 0, .bool false] 36)).heap.size = w.heap.size + 1 := by simp
    have c0 := cell_below hb0 hp
    generalize w.alloc (.cells #[.string ⟨#[]⟩, .slice none 0 0, .int .i64 0, .bool false] 36) = W0 at g0 hb0 hs0 c0 ⊢
    have HB0 := Lib.hid hb0
    have HG0 := Lib.hid g0
    clear hb0 g0
    first
      | (go_region_held3 (fun w' => w'.cell? ⟨tb, 0, none⟩ = some (.pointer (some ⟨p, 0, none⟩)))
          (first
            | go_keep
            | exact cell_below HB2.out c0
            | exact cell_below HB3.out hp
            | fail "keep")
          (first
            | (go_at_call 28; refine (levels_any s _ hs).mono ?_; rintro e w2 ⟨v1, rfl, hown, hb⟩; have HB2 := Lib.hid (show Below W0.heap.size W0 w2 from ((Below.refl _ W0).drew).trans hb); have HST := Lib.hid (StrsAt.of_owns hown); clear hown hb)
            | (go_at_call 52; refine (HAT.out _ (HB0.out.trans (HB2.out.mono (by have := HB0.out.size; omega))) _ HST.out).mono ?_; rintro e w3 ⟨rfl, hb3, hh3⟩; have HB3 := Lib.hid hb3; have HH3 := Lib.hid hh3; clear hb3 hh3)
            | fail "arm"))
      | fail "x"
    have g3 : w3.heap[w.heap.size]? = some (.cells #[.string ⟨#[]⟩, .slice none 0 0, .int .i64 0, .bool false] 36 (0, 0)) := by rw [HH3.out, HB2.out.block _ (by omega)]; exact HG0.out
    have s0 : w3.cell? ⟨w.heap.size, 0, none⟩ = some (.string ⟨#[]⟩) := by unfold World.cell?; simp only; rw [g3]; rfl
    have s1 : w3.cell? ⟨w.heap.size, 1, none⟩ = some (.slice none 0 0) := by unfold World.cell?; simp only; rw [g3]; rfl
    have s2 : w3.cell? ⟨w.heap.size, 2, none⟩ = some (.int .i64 0) := by unfold World.cell?; simp only; rw [g3]; rfl
    have s3 : w3.cell? ⟨w.heap.size, 3, none⟩ = some (.bool false) := by unfold World.cell?; simp only; rw [g3]; rfl
    have f1 := fun j => frozen_of_row w3 w.heap.size j _ _ g3
    have H3 := Lib.hid g3
    clear g3
    go_wp2_with fail
    obtain ⟨W, hW⟩ : ∃ W, (((w3.setCell ⟨w.heap.size, 0, none⟩ (.string ⟨#[]⟩)).setCell ⟨w.heap.size, 1, none⟩ (.slice none 0 0)).setCell ⟨w.heap.size, 2, none⟩ (.int .i64 0)).setCell ⟨w.heap.size, 3, none⟩ (.bool false) = W := ⟨_, rfl⟩
    obtain ⟨g4, b4, s4⟩ := set4 H3.out hW
    rw [hW]
    clear hW
    have z0 : W.cell? ⟨w.heap.size, 0, none⟩ = some (.string ⟨#[]⟩) := by unfold World.cell?; simp only; rw [g4]; rfl
    have z1 : W.cell? ⟨w.heap.size, 1, none⟩ = some (.slice none 0 0) := by unfold World.cell?; simp only; rw [g4]; rfl
    have z2 : W.cell? ⟨w.heap.size, 2, none⟩ = some (.int .i64 0) := by unfold World.cell?; simp only; rw [g4]; rfl
    have z3 : W.cell? ⟨w.heap.size, 3, none⟩ = some (.bool false) := by unfold World.cell?; simp only; rw [g4]; rfl
    clear s0 s1 s2 s3
    refine bodyPost_ret (v := .tuple #[.agg #[.string ⟨#[]⟩, .slice none 0 0, .int .i64 0, .bool false], .bool false]) (by simp [results, Tryz.results25, go_sem, z0, z1, z2, z3]) rfl ?_
    exact ⟨⟨_, ⟨_, _, _, _, _, _, rfl⟩, rfl, fun m hm => by cases hm⟩, HB3.out.trans (b4 _ (Nat.le_refl _))⟩
  | some n =>
    have HAT := Lib.hid (at_some HG.out HL.out.2 hna)
    have hgn : get (levels s) (body t) = n.val := by rw [← HSP.out, hna]; rfl
    have HGN := Lib.hid hgn
    rw [hgn]
    clear hgn hna
    go_enter Tryz.func25, Tryz.ntmps25
    go_wp2_with fail
    have g0 := (MapKept.heap_alloc w (.cells #[.string ⟨#[]⟩, .slice none 0 0, .int .i64 0, .bool false] 36)).1
    have hb0 : Below w.heap.size w (w.alloc (.cells #[.string ⟨#[]⟩, .slice none 0 0, .int .i64 0, .bool false] 36)) := (Below.refl _ _).alloc (Nat.le_refl _) _
    have hs0 : (w.alloc (.cells #[.string ⟨#[]⟩, .slice none 0 0, .int .i64 0, .bool false] 36)).heap.size = w.heap.size + 1 := by simp
    have c0 := cell_below hb0 hp
    generalize w.alloc (.cells #[.string ⟨#[]⟩, .slice none 0 0, .int .i64 0, .bool false] 36) = W0 at g0 hb0 hs0 c0 ⊢
    have HB0 := Lib.hid hb0
    have HG0 := Lib.hid g0
    clear hb0 g0
    first
      | (go_region_held3 (fun w' => w'.cell? ⟨tb, 0, none⟩ = some (.pointer (some ⟨p, 0, none⟩)))
          (first
            | go_keep
            | exact cell_below HB2.out c0
            | exact cell_below HB3.out hp
            | fail "keep")
          (first
            | (go_at_call 28; refine (levels_any s _ hs).mono ?_; rintro e w2 ⟨v1, rfl, hown, hb⟩; have HB2 := Lib.hid (show Below W0.heap.size W0 w2 from ((Below.refl _ W0).drew).trans hb); have HST := Lib.hid (StrsAt.of_owns hown); clear hown hb)
            | (go_at_call 52; refine (HAT.out _ (HB0.out.trans (HB2.out.mono (by have := HB0.out.size; omega))) _ HST.out).mono ?_; rintro e w3 ⟨qn, rfl, hg3, hb3, hh3⟩; have HG3 := Lib.hid hg3; have HB3 := Lib.hid hb3; have HH3 := Lib.hid hh3; clear hg3 hb3 hh3)
            | fail "arm"))
      | fail "x"
    have g3 : w3.heap[w.heap.size]? = some (.cells #[.string ⟨#[]⟩, .slice none 0 0, .int .i64 0, .bool false] 36 (0, 0)) := by rw [HH3.out, HB2.out.block _ (by omega)]; exact HG0.out
    have s0 : w3.cell? ⟨w.heap.size, 0, none⟩ = some (.string ⟨#[]⟩) := by unfold World.cell?; simp only; rw [g3]; rfl
    have s1 : w3.cell? ⟨w.heap.size, 1, none⟩ = some (.slice none 0 0) := by unfold World.cell?; simp only; rw [g3]; rfl
    have s2 : w3.cell? ⟨w.heap.size, 2, none⟩ = some (.int .i64 0) := by unfold World.cell?; simp only; rw [g3]; rfl
    have s3 : w3.cell? ⟨w.heap.size, 3, none⟩ = some (.bool false) := by unfold World.cell?; simp only; rw [g3]; rfl
    have f1 := fun j => frozen_of_row w3 w.heap.size j _ _ g3
    have H3 := Lib.hid g3
    clear g3
    obtain ⟨svn, mvn, kvn, bsn, On⟩ := HG3.out.node.open
    have y1 := On.c1
    have hmp := On.hm
    clear On
    cases hv : n.val with
    | none =>
      rw [hv] at hmp
      obtain rfl : mvn = .pointer none := hmp
      have HV := Lib.hid hv
      clear hv
      go_wp2_with fail
      obtain ⟨W, hW⟩ : ∃ W, (((w3.setCell ⟨w.heap.size, 0, none⟩ (.string ⟨#[]⟩)).setCell ⟨w.heap.size, 1, none⟩ (.slice none 0 0)).setCell ⟨w.heap.size, 2, none⟩ (.int .i64 0)).setCell ⟨w.heap.size, 3, none⟩ (.bool false) = W := ⟨_, rfl⟩
      obtain ⟨g4, b4, s4⟩ := set4 H3.out hW
      rw [hW]
      clear hW
      have z0 : W.cell? ⟨w.heap.size, 0, none⟩ = some (.string ⟨#[]⟩) := by unfold World.cell?; simp only; rw [g4]; rfl
      have z1 : W.cell? ⟨w.heap.size, 1, none⟩ = some (.slice none 0 0) := by unfold World.cell?; simp only; rw [g4]; rfl
      have z2 : W.cell? ⟨w.heap.size, 2, none⟩ = some (.int .i64 0) := by unfold World.cell?; simp only; rw [g4]; rfl
      have z3 : W.cell? ⟨w.heap.size, 3, none⟩ = some (.bool false) := by unfold World.cell?; simp only; rw [g4]; rfl
      clear s0 s1 s2 s3
      refine bodyPost_ret (v := .tuple #[.agg #[.string ⟨#[]⟩, .slice none 0 0, .int .i64 0, .bool false], .bool false]) (by simp [results, Tryz.results25, go_sem, z0, z1, z2, z3]) rfl ?_
      rw [HV.out]
      exact ⟨⟨_, ⟨_, _, _, _, _, _, rfl⟩, rfl, fun m hm => by cases hm⟩, HB3.out.trans (b4 _ (Nat.le_refl _))⟩
    | some m =>
      rw [hv] at hmp
      obtain ⟨mb, rfl, hmm⟩ := hmp
      have hlen : m.pay.length ≤ 1000000000 := by
        have h1 := get_mem (HGN.out.trans hv)
        exact hsh _ h1
      obtain ⟨pv, hpc, hpr⟩ := hmm.c1
      have d0 := hmm.c0
      have d2 := hmm.c2
      have d3 := hmm.c3
      have HOWN := Lib.hid (own_any (F := F) (w := w3) (v := .agg #[.string m.topic, pv, .int .i64 m.qos, .bool m.ret]) (m := m) ⟨pv, rfl, hpr⟩ hlen)
      have HV := Lib.hid hv
      clear hmm hv hpr
      go_wp2_with fail
      refine HOWN.out.mono ?_
      rintro e w5 ⟨v5, rfl, ⟨pv5, rfl, hrow5⟩, hb5⟩
      have g5 := (hb5.block w.heap.size (by have := (Array.getElem?_eq_some_iff.1 H3.out).1; exact this)).trans H3.out
      have s0 : w5.cell? ⟨w.heap.size, 0, none⟩ = some (.string ⟨#[]⟩) := by unfold World.cell?; simp only; rw [g5]; rfl
      have s1 : w5.cell? ⟨w.heap.size, 1, none⟩ = some (.slice none 0 0) := by unfold World.cell?; simp only; rw [g5]; rfl
      have s2 : w5.cell? ⟨w.heap.size, 2, none⟩ = some (.int .i64 0) := by unfold World.cell?; simp only; rw [g5]; rfl
      have s3 : w5.cell? ⟨w.heap.size, 3, none⟩ = some (.bool false) := by unfold World.cell?; simp only; rw [g5]; rfl
      have f1 := fun j => frozen_of_row w5 w.heap.size j _ _ g5
      have H5 := Lib.hid g5
      have HB5 := Lib.hid hb5
      have HR5 := Lib.hid hrow5
      obtain ⟨ap, cp, rfl⟩ : ∃ ap cp, pv5 = .slice ap m.pay.length cp := by obtain ⟨⟨_, a, c, e, _⟩, _⟩ := hrow5; exact ⟨a, c, e⟩
      clear g5 hb5 hrow5
      go_wp2_with fail
      obtain ⟨W, hW⟩ : ∃ W, (((w5.setCell ⟨w.heap.size, 0, none⟩ (.string m.topic)).setCell ⟨w.heap.size, 1, none⟩ (.slice ap m.pay.length cp)).setCell ⟨w.heap.size, 2, none⟩ (.int .i64 m.qos)).setCell ⟨w.heap.size, 3, none⟩ (.bool m.ret) = W := ⟨_, rfl⟩
      obtain ⟨g4, b4, s4⟩ := set4 H5.out hW
      have o4 : ∀ k, k ≠ w.heap.size → W.heap[k]? = w5.heap[k]? := fun k hk => by
        rw [← hW]
        exact (heap_setCell_other _ _ _ _ hk).trans ((heap_setCell_other _ _ _ _ hk).trans ((heap_setCell_other _ _ _ _ hk).trans (heap_setCell_other _ _ _ _ hk)))
      rw [hW]
      clear hW
      have z0 : W.cell? ⟨w.heap.size, 0, none⟩ = some (.string m.topic) := by unfold World.cell?; simp only; rw [g4]; rfl
      have z1 : W.cell? ⟨w.heap.size, 1, none⟩ = some (.slice ap m.pay.length cp) := by unfold World.cell?; simp only; rw [g4]; rfl
      have z2 : W.cell? ⟨w.heap.size, 2, none⟩ = some (.int .i64 m.qos) := by unfold World.cell?; simp only; rw [g4]; rfl
      have z3 : W.cell? ⟨w.heap.size, 3, none⟩ = some (.bool m.ret) := by unfold World.cell?; simp only; rw [g4]; rfl
      clear s0 s1 s2 s3
      have hlt3 : w.heap.size < w3.heap.size := (Array.getElem?_eq_some_iff.1 H3.out).1
      refine bodyPost_ret (v := .tuple #[.agg #[.string m.topic, .slice ap m.pay.length cp, .int .i64 m.qos, .bool m.ret], .bool true]) (by simp [results, Tryz.results25, go_sem, z0, z1, z2, z3]) rfl ?_
      rw [HV.out]
      refine ⟨⟨_, ⟨_, _, _, _, _, _, rfl⟩, rfl, fun m' hm => ?_⟩, (HB3.out.trans (HB5.out.mono (by omega))).trans (b4 _ (Nat.le_refl _))⟩
      injection hm with hm
      subst hm
      exact ⟨_, rfl, (HR5.out.keep (fun k hk hF => o4 k (by have := hF.1; omega))).mono (fun x hx => ⟨by have := hx.1; omega, by have := hx.2; omega⟩)⟩
end Go.Proofs.YtgnffkahlniehaaGreat
