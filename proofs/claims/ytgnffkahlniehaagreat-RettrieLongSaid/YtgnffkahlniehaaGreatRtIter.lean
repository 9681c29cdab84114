/- Proved here: what a trie's iterators do with a function that goes on; the makers. -/
import Derived.Test.YtgnffkahlniehaaGreatRtAllS
import Derived.Test.YtgnffkahlniehaaGreatRtGet
import Derived.Test.YtgnffkahlniehaaGreatRtFound
namespace Go.Proofs.YtgnffkahlniehaaGreat
open Go Go.RowKit Go.Shelf Go.Proofs.Gs Go.Proofs.Tri Go.Proofs.Rt Go.Proofs.Tp
attribute [local go_sem] Oper.semAt_some

/-- A function that takes messages, goes on, and keeps what others have. -/
structure Taker (g : Nat) (caps : Array Value) (base N : Nat) (JJ : (Nat → Prop) → List MsgV → World → Prop) : Prop where
  enters : ∀ args W, (callFunc g args).run Tryz.prog W = .ok (.enter g args) W
  old : ∀ X pre W x, JJ X pre W → X x → x < W.heap.size
  more : ∀ (X X' : Nat → Prop) pre W W', JJ X pre W → Below W.heap.size W W' → (∀ x, X' x → X x ∨ (W.heap.size ≤ x ∧ x < W'.heap.size)) → JJ X' pre W'
  own : ∀ X, OwnFrom base (JJ X)
  takes : ∀ X pre m v W0 W, JJ X pre W0 → pre.length < N → m.pay.length ≤ 1000000000 → Below W0.heap.size W0 W → MsgVal (Fresh W0 W) W v m →
    Calls Tryz.prog g (#[v] ++ caps) W fun e W' => e = .returned (.bool true) ∧ JJ X (pre ++ [m]) W' ∧ Keeps X W W' ∧ KeepsOthers W W'

/-- What an iterator's function does with any such function. -/
def Gives (S : Nat) (capsS : Array Value) (w : World) (N : Nat) (ms : List MsgV) : Prop :=
  ∀ (g : Nat) (caps : Array Value) (base : Nat) (JJ : (Nat → Prop) → List MsgV → World → Prop) (X : Nat → Prop) (W : World), Taker g caps base N JJ → base ≤ W.heap.size → Below w.heap.size w W → (∀ x, x < w.heap.size → X x) → JJ X [] W →
    Calls Tryz.prog S (#[.func (.func g) #[] caps] ++ capsS) W fun e W' => e = .returned (.tuple #[]) ∧ JJ X ms W'

theorem others_below {w w' : World} (h : Below w.heap.size w w') : KeepsOthers w w' := ⟨h.size, fun k o hk _ => (h.block k (Array.getElem?_eq_some_iff.1 hk).1).trans hk⟩
theorem keeps_below {F : Nat → Prop} {w w' : World} (h : Below w.heap.size w w') : Keeps F w w' := ⟨h.size, Same.below h⟩
theorem Keeps.sub {F F' : Nat → Prop} {w w' : World} (h : Keeps F w w') (hF : ∀ x, F' x → F x) : Keeps F' w w' := ⟨h.1, fun k hk hx => h.2 k hk (hF k hx)⟩

/-! ### The makers -/
set_option maxHeartbeats 1000000 in
set_option maxRecDepth 100000 in
theorem tall_any (w : World) (tb : Nat) :
    Calls Tryz.prog 20 #[.pointer (some ⟨tb, 0, none⟩)] w fun e w' => e = .returned (.func (.func 47) #[] #[.pointer (some ⟨w.heap.size, 0, none⟩)]) ∧ w'.cell? ⟨w.heap.size, 0, none⟩ = some (.pointer (some ⟨tb, 0, none⟩)) ∧ Below w.heap.size w w' := by
  go_enter Tryz.func20, Tryz.ntmps20
  go_wp2_with fail
  go_ret
  refine ⟨rfl, ?_, (Below.refl _ _).alloc (Nat.le_refl _) _⟩
  have g0 := (MapKept.heap_alloc w (.cells #[.pointer (some ⟨tb, 0, none⟩)] 26)).1
  unfold World.cell?; simp only; rw [g0]; rfl

set_option maxHeartbeats 1000000 in
set_option maxRecDepth 100000 in
theorem tfind_any (w : World) (tb : Nat) (f : ByteArray) :
    Calls Tryz.prog 15 #[.pointer (some ⟨tb, 0, none⟩), .string f] w fun e w' => ∃ b1 b2, e = .returned (.func (.func 34) #[] #[.pointer (some ⟨b2, 0, none⟩), .pointer (some ⟨b1, 0, none⟩)]) ∧ w'.cell? ⟨b1, 0, none⟩ = some (.pointer (some ⟨tb, 0, none⟩)) ∧ w'.cell? ⟨b2, 0, none⟩ = some (.string f) ∧ Below w.heap.size w w' := by
  go_enter Tryz.func15, Tryz.ntmps15
  go_wp2_with fail
  go_ret
  have g0 := (MapKept.heap_alloc w (.cells #[.pointer (some ⟨tb, 0, none⟩)] 26)).1
  have g1 := (MapKept.heap_alloc (w.alloc (.cells #[.pointer (some ⟨tb, 0, none⟩)] 26)) (.cells #[.string f] 9)).1
  refine ⟨w.heap.size, w.heap.size + 1, by simp, ?_, ?_, ((Below.refl _ _).alloc (Nat.le_refl _) _).alloc (by simp) _⟩
  · refine cell_below (w := w.alloc (.cells #[.pointer (some ⟨tb, 0, none⟩)] 26)) ((Below.refl _ _).alloc (Nat.le_refl _) _) ?_
    unfold World.cell?; simp only; rw [g0]; rfl
  · rw [World.size_alloc] at g1
    unfold World.cell?; simp only; rw [g1]; rfl

set_option maxHeartbeats 1000000 in
set_option maxRecDepth 100000 in
theorem seq_any (w : World) (p : Nat) :
    Calls Tryz.prog 48 #[.pointer (some ⟨p, 0, none⟩)] w fun e w' => e = .returned (.func (.func 75) #[] #[.pointer (some ⟨w.heap.size, 0, none⟩)]) ∧ w'.cell? ⟨w.heap.size, 0, none⟩ = some (.pointer (some ⟨p, 0, none⟩)) ∧ Below w.heap.size w w' ∧ w'.heap.size = w.heap.size + 1 := by
  go_enter Tryz.func48, Tryz.ntmps48
  go_wp2_with fail
  go_ret
  refine ⟨rfl, ?_, (Below.refl _ _).alloc (Nat.le_refl _) _, by simp⟩
  have g0 := (MapKept.heap_alloc w (.cells #[.pointer (some ⟨p, 0, none⟩)] 56)).1
  unfold World.cell?; simp only; rw [g0]; rfl

/-! ### seq's function under a range -/
set_option maxHeartbeats 2000000 in
set_option maxRecDepth 100000 in
theorem seq1_stops {F : Nat → Prop} {w : World} {p bx N : Nat} {t : Tree} (hn : NodeAt F w p t) (hs : nodes t ≤ 100000000) (hpay : Short t) (hbx : w.cell? ⟨bx, 0, none⟩ = some (.pointer (some ⟨p, 0, none⟩))) (hN : (body t).length ≤ N) (n : Nat) :
    SeqStopsK Fence.wide n Tryz.prog 75 #[.pointer (some ⟨bx, 0, none⟩)] (encMsg (F := F) (w0 := w)) (Keeps F) (fun xs => xs.map msgOf = vals (body t)) (fun _ => True) N w := fun l J Jx W hW _ _ hY h0 => by
  have hb1 := cell_below hW hbx
  have HALL := Lib.hid (all_stops (F := F) (w0 := w) l N J Jx (fun pre x W1 hJ hl => by obtain ⟨fn, tmps, asg, bd, h1, h2⟩ := hY pre x W1 hJ hl; exact ⟨fn, tmps, asg, bd, h1, roundIn_wide h2⟩) t p [] W hn hs hpay (keeps_below hW) h0 (by simpa using hN))
  clear hY h0 hn hbx
  refine callsIn_wide (n := 4) |>.1 ?_ |> callsIn_wide.2
  refine callsIn_of_wp Tryz.func75 rfl trivial ?_ rfl
  simp only [Tryz.ntmps75, List.size_toArray, List.length_cons, List.length_nil, Nat.reduceAdd, Nat.reduceSub, Array.replicate_succ, Array.replicate_zero, List.push_toArray, List.append_toArray, List.nil_append, List.cons_append]
  gi_wp2_with (with_reducible refine And.intro skip_about ?_)
  refine ⟨trivial, ?_⟩
  refine HALL.out.mono ?_
  rintro e W3 (⟨rfl, hK3, ys, hys, hJ3⟩ | ⟨rfl, ys, hx3⟩)
  · have HYS := Lib.hid hys
    have HJ3 := Lib.hid hJ3
    clear hys hJ3
    gi_wp2_with (with_reducible refine And.intro skip_about ?_)
    go_end0
    exact ⟨⟨_, rfl⟩, .inl ⟨ys, HYS.out, HJ3.out⟩⟩
  · have HX3 := Lib.hid hx3
    clear hx3
    gi_wp2_with (with_reducible refine And.intro skip_about ?_)
    go_end0
    exact ⟨⟨_, rfl⟩, .inr ⟨ys, trivial, HX3.out⟩⟩
end Go.Proofs.YtgnffkahlniehaaGreat
