/- Proved here: what cut, lay and empty of a cache do to memory. -/
import Derived.Test.YteboancapfgdeaaProg
import Derived.Test.YteboancapfgdeaaCcOps
import Derived.Deep.RegionHeld3
import Derived.Deep.DrawnRows
import Derived.Lib.Hide
import Derived.BigRegion
import Derived.Carry
namespace Go.Proofs.Yteboancapfgdeaa.SI
open Go.RowKit Go.Proofs.Cc
attribute [local go_sem ↓] Go.wp_at_zero Go.wp_at_succ

theorem keepA {w : World} {a b o p : Nat} {u v : Value} (hc : w.cell? ⟨b, p, none⟩ = some u) (h : a ≠ b ∨ o ≠ p) : (w.setCell ⟨a, o, none⟩ v).drew.cell? ⟨b, p, none⟩ = some u := (cell_set_other (w := w) h).trans hc
theorem keepB {w : World} {a b o p : Nat} {u v : Value} (hc : w.cell? ⟨b, p, none⟩ = some u) (h : a ≠ b ∨ o ≠ p) : (w.setCell ⟨a, o, none⟩ v).cell? ⟨b, p, none⟩ = some u := (cell_set_other (w := w) h).trans hc


theorem cutSI_any (c : Value) (e n l : Nat) (w : World) (h1 : w.cell? ⟨e, 0, none⟩ = some (.pointer (some ⟨n, 0, none⟩))) (h2 : w.cell? ⟨e, 1, none⟩ = some (.pointer (some ⟨l, 0, none⟩)))
    {u v : Value} (h3 : w.cell? ⟨n, 1, none⟩ = some u) (h4 : w.cell? ⟨l, 0, none⟩ = some v) (f1 : Live w n) (f2 : Live w l)  :
    Calls Try.prog 128 #[c, .pointer (some ⟨e, 0, none⟩)] w fun ex w' => ex = .returned (.tuple #[]) ∧ w' = (tie w l n).drew := by
  have g3 := f1.frozen 1 none
  have g4 := f2.frozen 0 none
  go_enter Try.func128, Try.ntmps128
  go_wp2_with fail
  go_region
  go_wp2_with fail
  go_end0
  exact ⟨rfl, rfl⟩

/-- An entry is laid down behind h, ahead of f. -/
theorem laySI_any (c h f e : Nat) (w : World) (h0 : w.cell? ⟨c, 1, none⟩ = some (.pointer (some ⟨h, 0, none⟩))) (h1 : w.cell? ⟨h, 0, none⟩ = some (.pointer (some ⟨f, 0, none⟩)))
    {u v x : Value} (h2 : w.cell? ⟨f, 1, none⟩ = some u) (h3 : w.cell? ⟨e, 0, none⟩ = some v) (h4 : w.cell? ⟨e, 1, none⟩ = some x) (f1 : Live w h) (f2 : Live w f) (f3 : Live w e)
    (d1 : e ≠ c) (d2 : e ≠ h) (d5 : f ≠ e) :
    Calls Try.prog 129 #[.pointer (some ⟨c, 0, none⟩), .pointer (some ⟨e, 0, none⟩)] w fun ex w' => ex = .returned (.tuple #[]) ∧ w' = (lays w h f e).drew.drew := by
  have g3 := f3.frozen 1 none
  have g4 := f3.frozen 0 none
  go_enter Try.func129, Try.ntmps129
  go_wp2_with fail
  go_region
  have k0 : ((w.setCell ⟨e, 1, none⟩ (.pointer (some ⟨h, 0, none⟩))).setCell ⟨e, 0, none⟩ (.pointer (some ⟨f, 0, none⟩))).cell? ⟨c, 1, none⟩ = some (.pointer (some ⟨h, 0, none⟩)) := keepB (keepB h0 (.inl d1)) (.inl d1)
  have k1 : ((w.setCell ⟨e, 1, none⟩ (.pointer (some ⟨h, 0, none⟩))).setCell ⟨e, 0, none⟩ (.pointer (some ⟨f, 0, none⟩))).cell? ⟨h, 0, none⟩ = some (.pointer (some ⟨f, 0, none⟩)) := keepB (keepB h1 (.inl d2)) (.inl d2)
  have k2 : ((w.setCell ⟨e, 1, none⟩ (.pointer (some ⟨h, 0, none⟩))).setCell ⟨e, 0, none⟩ (.pointer (some ⟨f, 0, none⟩))).cell? ⟨f, 1, none⟩ = some u := keepB (keepB h2 (.inl (Ne.symm d5))) (.inl (Ne.symm d5))
  have k3 := ((f2.setCell ⟨e, 1, none⟩ (.pointer (some ⟨h, 0, none⟩))).setCell ⟨e, 0, none⟩ (.pointer (some ⟨f, 0, none⟩))).frozen 1 none
  have k4 := ((f1.setCell ⟨e, 1, none⟩ (.pointer (some ⟨h, 0, none⟩))).setCell ⟨e, 0, none⟩ (.pointer (some ⟨f, 0, none⟩))).frozen 0 none
  obtain ⟨w1, hw1⟩ : ∃ w1, (w.setCell ⟨e, 1, none⟩ (.pointer (some ⟨h, 0, none⟩))).setCell ⟨e, 0, none⟩ (.pointer (some ⟨f, 0, none⟩)) = w1 := ⟨_, rfl⟩
  have HW := Lib.hid hw1
  rw [hw1] at k0 k1 k2 k3 k4 ⊢
  clear hw1
  have k0' : w1.drew.cell? ⟨c, 1, none⟩ = _ := k0
  have k1' : w1.drew.cell? ⟨h, 0, none⟩ = _ := k1
  go_wp2_with fail
  go_region
  go_wp2_with fail
  go_end0
  exact ⟨rfl, by rw [← HW.out]; rfl⟩

theorem emptySI_any (c : Nat) (w : World) {u v : Value} (h1 : w.cell? ⟨c, 1, none⟩ = some u) (h2 : w.cell? ⟨c, 2, none⟩ = some v) (f1 : Live w c) :
    Calls Try.prog 127 #[.pointer (some ⟨c, 0, none⟩)] w fun ex w' => ex = .returned (.tuple #[]) ∧
      w' = (emptied w c 219 [.string ByteArray.empty, .int .i64 0]).drew := by
  have hmm := @run_makeMap Try.prog
  have hlt := f1.lt
  have g1 := f1.frozen 1 none
  have g2 := f1.frozen 2 none
  go_enter Try.func127, Try.ntmps127
  go_wp2_with fail
  go_region
  go_wp2_with fail
  go_end0
  exact ⟨rfl, rfl⟩

end Go.Proofs.Yteboancapfgdeaa.SI
