/- Proved here: the law's bound, of every trie. -/
import Derived.Test.YtgnffkahlniehaaGreatRtTPut
namespace Go.Proofs.YtgnffkahlniehaaGreat
open Go Go.RowKit Go.Proofs.Gs Go.Proofs.Tri Go.Proofs.Rt Go.Proofs.Tp

set_option maxHeartbeats 2000000 in
set_option maxRecDepth 100000 in
theorem bound_any {F : Nat → Prop} {w : World} {tb : Nat} {t : Tree} (T : TrieAt F w tb t) :
    Calls Tryz.prog 18 #[.pointer (some ⟨tb, 0, none⟩)] w fun e w' => e = .returned (.bool true) ∧ w' = w := by
  have HN := Lib.hid (nodes_any T)
  have HL := Lib.hid (len_any T)
  obtain ⟨h1, h2, h3⟩ := nodes_root T.forest
  have h4 := T.lim.count
  obtain ⟨N, hN⟩ : ∃ N, nodes t = N := ⟨_, rfl⟩
  obtain ⟨K, hK⟩ : ∃ K, (body t).length = K := ⟨_, rfl⟩
  rw [hN] at HN h1 h2 h3
  rw [hK] at HL h2 h3 h4
  have d1 : decide ((1 : Int) ≤ (N : Int)) = true := decide_eq_true (by omega)
  have d2 : decide ((N : Int) ≤ 2 * (K : Int) + 1) = true := decide_eq_true (by omega)
  clear T hN hK
  rcases Nat.eq_zero_or_pos K with hk | hk
  · obtain rfl : N = 1 := by omega
    subst hk
    clear d1 d2 h1 h2 h3 h4
    go_enter Tryz.func18, Tryz.ntmps18
    go_wp2_with fail
    refine HN.out.mono ?_
    rintro e w' ⟨rfl, rfl⟩
    go_wp2_with fail
    refine HL.out.mono ?_
    rintro e w' ⟨rfl, rfl⟩
    go_wp2_with fail
    go_ret
    exact ⟨rfl, rfl⟩
  · have d3 : decide ((0 : Int) < (K : Int)) = true := decide_eq_true (by omega)
    go_enter Tryz.func18, Tryz.ntmps18
    go_wp2_with fail
    refine HN.out.mono ?_
    rintro e w' ⟨rfl, rfl⟩
    go_wp2_with fail
    refine HL.out.mono ?_
    rintro e w' ⟨rfl, rfl⟩
    go_wp2_with fail
    go_ret
    exact ⟨rfl, rfl⟩
end Go.Proofs.YtgnffkahlniehaaGreat
