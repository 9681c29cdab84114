/- Proved here: Drop of a cache. -/
import Derived.Test.YteboancapfgdeaaCcSILink
import Derived.Test.YteboancapfgdeaaCcKindsB
import Derived.Deep.DeepCutAuto
namespace Go.Proofs.Yteboancapfgdeaa.SI
open Go.RowKit Go.Proofs.Cc

theorem dropSI_any {w : World} {c : Nat} {S : Nat → Prop} {most : Nat} {E : List (Ent Str I64)} (HC : CacheAt Try.prog 9 kdS kdI w c S most E) (k : Str) :
    Calls Try.prog 51 #[.pointer (some ⟨c, 0, none⟩), .string k.1] w fun ex w' => ex = .returned (.bool (decide (k ∈ E.map Ent.key))) ∧ CacheAt Try.prog 9 kdS kdI w' c S most (rmE k E) ∧ Turn S w w' := by
  obtain ⟨b, h, D, C⟩ := HC
  have hc2 := C.by'
  have hown := C.own
  have hkey := keyS Try.underlying9 k
  have HC := Lib.hid C
  by_cases hk : k ∈ E.map Ent.key
  · obtain ⟨p, e, q, hE, he⟩ := key_split hk
    have hhas : Maps.has D (kdS.lit k) = true := by rw [C.has]; simp [hk]
    have hat : ∀ z, D.atKey (kdS.lit k) z = .lit (.int .i64 e.blk) := by rw [← he]; exact C.at' e (by rw [hE]; simp)
    obtain ⟨l, n, r1, r2, n1, n2, l1, l2, hring⟩ := C.around hE
    have HR := Lib.hid hring
    have HE := Lib.hid hE
    have Hk := Lib.hid hk
    have He := Lib.hid he
    have hl := C.live l r1
    have hn := C.live n r2
    clear hring hE hk he C
    go_enter Try.func51, Try.ntmps51
    go_wp2_with (at_lookup; refine lookup_hit rfl _ _ 211 rfl 9 210 (Maps.string_keyed Try.underlying9) Try.underlying211 (Try.zeroValue210 _) b _ D rfl hown _ _ rfl hkey e.blk hat hhas ?_)
    go_wp2_with fail
    refine (cutSI_any _ _ _ _ _ l2.1 l1.2 l2.2 l1.1 hn hl).mono ?_
    rintro ex w1 ⟨rfl, hw1⟩
    have T : Brushed (inRing h E) w w1 := by rw [hw1]; exact (tie_touch r1 r2).drew
    have hring1 : Seg w1 h ((p ++ q).map Ent.blk) h := by rw [hw1]; exact HR.out.drew
    have hc3 : w1.cell? ⟨c, 2, none⟩ = some (.map (some b)) := (T.other HC.out.notC 2).trans hc2
    have hown1 := HC.out.ownTouched T
    have HT := Lib.hid T
    have HR1 := Lib.hid hring1
    clear hw1 T hring1 hc2 hown
    go_wp2_with (at_delete; refine wpList_delete_own _ rfl _ _ 211 9 rfl 210 (Maps.string_keyed Try.underlying9) Try.underlying211 _ b _ D rfl hown1 _ _ rfl hkey ?_; intro w2 hown2 hturn2)
    go_wp2_with fail
    go_ret
    have hdrop := HC.out.drop (w2 := w2) okS HE.out HT.out HR1.out (by rw [He.out]; exact hown2) hturn2 (Maps.string_keyed Try.underlying9)
    have hrm : rmE k E = p ++ q := by have hn := HC.out.keys; rw [HE.out] at hn ⊢; exact rmE_mid He.out hn
    rw [hrm]
    exact ⟨by simp [Hk.out], ⟨b, h, _, hdrop.1⟩, hdrop.2⟩
  · have hhas : Maps.has D (kdS.lit k) = false := by rw [C.has]; simp [hk]
    have Hk := Lib.hid hk
    clear hk C
    go_enter Try.func51, Try.ntmps51
    go_wp2_with (at_lookup; refine lookup_miss rfl _ _ 211 rfl 9 210 (Maps.string_keyed Try.underlying9) Try.underlying211 (Try.zeroValue210 _) b _ D rfl hown _ _ rfl hkey hhas ?_)
    go_wp2_with fail
    go_ret
    rw [rmE_none Hk.out]
    exact ⟨by simp [Hk.out], ⟨b, h, D, HC.out⟩, Turn.refl S w⟩

end Go.Proofs.Yteboancapfgdeaa.SI
