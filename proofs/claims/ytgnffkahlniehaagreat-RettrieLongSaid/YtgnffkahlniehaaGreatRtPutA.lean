/- Proved here: put, at every path. -/
import Derived.Test.YtgnffkahlniehaaGreatRtPutK
namespace Go.Proofs.YtgnffkahlniehaaGreat
open Go Go.RowKit Go.Proofs.Gs Go.Proofs.Tri Go.Proofs.Rt Go.Proofs.Tp

theorem put_any {b : Nat} {m : MsgV} : ∀ (n : Nat) (F : Nat → Prop) (w : World) (p : Nat) (t : Tree) (pv : Value) (path : List ByteArray), path.length ≤ n → n ≤ 1000000001 → Good F w p t → (∀ x, F x → x < w.heap.size) → StrsAt w pv path → MsgAt F w b m →
    Calls Tryz.prog 27 #[.pointer (some ⟨p, 0, none⟩), pv, .pointer (some ⟨b, 0, none⟩)] w (PutPost F w (put ltB t path m)) := by
  intro n
  induction n with
  | zero =>
    intro F w p t pv path hn _ G hF hp hm
    obtain rfl : path = [] := List.eq_nil_of_length_eq_zero (by omega)
    exact put_end G hp hm
  | succ n ih =>
    intro F w p t pv path hn hm1 G hF hp hm
    cases path with
    | nil => exact put_end G hp hm
    | cons x xs =>
      cases hk : kidAt ltB x t.kids with
      | none => exact put_new G hp (by omega) hm hk
      | some k => exact put_kid G hF hp (by omega) hm hk (fun F' w' p' t' pv' path' hl G' hF' hp' hm' => ih F' w' p' t' pv' path' (by omega) (by omega) G' hF' hp' hm')
end Go.Proofs.YtgnffkahlniehaaGreat
