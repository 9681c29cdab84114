/- Plain: a parameter of two cells in a block of its own; a look-up as an equation. No program in sight. -/
import Derived.Test.YteboancapfgdeaaCcPlain
import Derived.Deep.QuietTactic
import Derived.Deep.Slices
namespace Go.Proofs.Cc
open Go Go.RowKit Go.WideShapes Go.Deep
open Go.Maps (Keyed)

theorem box2 (w : World) (x y : Value) (t : TypeId) {W : World} (h : w.alloc (.cells #[x, y] t) = W) :
    Below w.heap.size w W ∧ W.heap.size = w.heap.size + 1 ∧ W.cell? ⟨w.heap.size, 0, none⟩ = some x ∧ W.cell? ⟨w.heap.size, 1, none⟩ = some y := by
  subst h
  have hh := (MapKept.heap_alloc w (.cells #[x, y] t)).1
  exact ⟨(Below.refl _ w).alloc (Nat.le_refl _) _, by simp, by unfold World.cell?; simp only; rw [hh]; rfl, by unfold World.cell?; simp only; rw [hh]; rfl⟩

theorem look_hit_run {P : Program} {w : World} (t : TypeId) (k e : TypeId) (K : Keyed P k) (ht : P.underlying t = some (.map k e)) (hz : (zeroValue e).run P w = .ok (.pointer none) w) (b n : Nat) (D : DataW Unit)
    (hown : w.ownsMap P k ptrR b n D) (key : Value) (kl : Lit) (hkey : keyOf P k key = some kl) (blk : Nat) (hat : ∀ z, D.atKey kl z = .lit (.int .i64 blk)) (hhas : Maps.has D kl = true) :
    (Instr.lookup t (.map (some b)) key true).run P w = .ok (.tuple #[.pointer (some ⟨blk, 0, none⟩), .bool true]) w := by
  obtain ⟨v, ps, hr, hv⟩ := hown.look_ok K ht hz (R := ptrR) (zd := .nil) (zp := []) rfl hkey
  rw [hat] at hv
  obtain ⟨n, h1, rfl⟩ := ptrR_inv hv
  have : blk = n := by omega
  subst this
  rw [hr, hhas]

theorem look_miss_run {P : Program} {w : World} (t : TypeId) (k e : TypeId) (K : Keyed P k) (ht : P.underlying t = some (.map k e)) (hz : (zeroValue e).run P w = .ok (.pointer none) w) (b n : Nat) (D : DataW Unit)
    (hown : w.ownsMap P k ptrR b n D) (key : Value) (kl : Lit) (hkey : keyOf P k key = some kl) (hhas : Maps.has D kl = false) :
    (Instr.lookup t (.map (some b)) key true).run P w = .ok (.tuple #[.pointer none, .bool false]) w := by
  obtain ⟨v, ps, hr, hv⟩ := hown.look_ok K ht hz (R := ptrR) (zd := .nil) (zp := []) rfl hkey
  rw [Maps.atKey_of_not_has hhas] at hv
  rw [hr, hhas, ptrR_nil hv]

theorem CacheAt.drewN {K V : Type} [DecidableEq K] {P : Program} {kT : TypeId} {KK : Kd K} {VK : Kd V} {w : World} {c most n : Nat} {S : Nat → Prop} {E : List (Ent K V)} (C : CacheAt P kT KK VK w c S most E) : CacheAt P kT KK VK (w.drewN n) c S most E :=
  C.frame (fun _ _ _ => rfl)

theorem Core.drewN {K V : Type} [DecidableEq K] {P : Program} {kT : TypeId} {KK : Kd K} {VK : Kd V} {w : World} {c b h most n : Nat} {D : DataW Unit} {S : Nat → Prop} {E : List (Ent K V)} (C : Core P kT KK VK w c b h D S most E) : Core P kT KK VK (w.drewN n) c b h D S most E :=
  C.frame (fun _ _ _ => rfl)

theorem Turn.drewN {S : Nat → Prop} {a w : World} {n : Nat} (h : Turn S a w) : Turn S a (w.drewN n) := ⟨h.os, h.tape, h.output, h.size, h.block⟩
theorem Turn.of_drewN {S : Nat → Prop} {a w : World} {n : Nat} (h : Turn S (a.drewN n) w) : Turn S a w := ⟨h.os, h.tape, h.output, h.size, h.block⟩

theorem CacheAt.tight0 {K V : Type} [DecidableEq K] {P : Program} {kT : TypeId} {KK : Kd K} {VK : Kd V} {w : World} {c most : Nat} {S : Nat → Prop} {E : List (Ent K V)} (C : CacheAt P kT KK VK w c S most E) : CacheAt P kT KK VK w c (fun x => S x ∧ x < w.heap.size) most E := by
  obtain ⟨b, h, D, C⟩ := C
  exact ⟨b, h, D, { C with sub := ⟨⟨C.sub.1, C.liveC.lt⟩, ⟨C.sub.2.1, C.own.lt⟩, fun x hx => ⟨C.sub.2.2 x hx, (C.live x hx).lt⟩⟩ }⟩
theorem cell_newsB (w : World) (cs : Array Value) (t : TypeId) : ∀ j u, cs.toList[j]? = some u → (w.alloc (.cells cs t)).cell? ((⟨w.heap.size, 0, none⟩ : Addr).add j) = some u := by
  intro j u hj
  rw [add_plain]
  have hh := (MapKept.heap_alloc w (.cells cs t)).1
  unfold World.cell?
  simp only
  rw [hh]
  simpa using hj

theorem owns_some {w : World} {base e size n : Nat} {v : Value} {xs : List Value} (h : w.ownsRow base e size v (n + 1) xs) : ∃ g cap, v = .slice (some ⟨g, 0, none⟩) (n + 1) cap := by
  rcases h.2 with ⟨_, h0⟩ | ⟨g, cap, cur, rfl, _⟩
  · omega
  · exact ⟨g, cap, rfl⟩

theorem ownsMap_drewN {P : Program} {k : TypeId} {R : Value → Option (DataW Unit × List MemPlace)} {w : World} {b n : Nat} {D : DataW Unit} (h : w.ownsMap P k R b n D) (m : Nat) : (w.drewN m).ownsMap P k R b n D := h

theorem below_drewN {B n : Nat} {a w : World} (h : Below B a w) : Below B a (w.drewN n) := ⟨h.os, h.tape, h.output, h.size, h.block⟩
theorem Live.drewN {w : World} {b n : Nat} (h : Live w b) : Live (w.drewN n) b := h
end Go.Proofs.Cc
