/- Proved here: drop, at every path at which something stands. -/
import Derived.Test.YtgnffkahlniehaaGreatRtDrop
namespace Go.Proofs.YtgnffkahlniehaaGreat
open Go Go.RowKit Go.Proofs.Gs Go.Proofs.Tri Go.Proofs.Rt Go.Proofs.Tp

theorem drop_any : ∀ (n : Nat) (F : Nat → Prop) (w : World) (p : Nat) (t : Tree) (pv : Value) (path : List ByteArray), path.length ≤ n → n ≤ 1000000001 → Good F w p t → (∀ x, F x → x < w.heap.size) → StrsAt w pv path → (get path (body t)).isSome = true →
    Calls Tryz.prog 32 #[.pointer (some ⟨p, 0, none⟩), pv] w (PutPost F w (drp ltB t path)) := by
  intro n
  induction n with
  | zero =>
    intro F w p t pv path hn _ G hF hp hg
    obtain rfl : path = [] := List.eq_nil_of_length_eq_zero (by omega)
    exact drop_end G hp
  | succ n ih =>
    intro F w p t pv path hn hm1 G hF hp hg
    cases path with
    | nil => exact drop_end G hp
    | cons x xs =>
      obtain ⟨k, hk⟩ := drop_kid_some G.forest hg
      exact drop_kid G hF hp (by omega) hk hg (fun F' w' p' t' pv' path' hl G' hF' hp' hg' => ih F' w' p' t' pv' path' (by omega) (by omega) G' hF' hp' hg')
end Go.Proofs.YtgnffkahlniehaaGreat
