/- Maps by keys in memory: what was laid; what was seen; the row of uses. -/
import Derived.Test.YteboancapfgdeaaCcKINew
import Derived.Test.YteboancapfgdeaaCcTrueP
import Derived.Test.YteboancapfgdeaaCcCodesK
namespace Go.Proofs.Yteboancapfgdeaa
open Go.RowKit Go.WideShapes Go.Proofs.Cc
open Go.Maps (Keyed)

abbrev keyVal (k : KeyV) : Value := .agg #[.string k.name.1, .int .i64 k.n.1]

def LaidAt (w : World) (b n : Nat) (F : KeyV → Option I64) : Prop :=
  ∃ D : DataW Unit, w.ownsMap Try.prog 31 (plainElem Try.prog 3) b n D ∧ (∀ k, Maps.has D (kdK.lit k) = (F k).isSome) ∧ ∀ k v, F k = some v → ∀ z, D.atKey (kdK.lit k) z = .lit (.int .i64 v.1)

def valOr (F : KeyV → Option I64) (k : KeyV) : Int := match F k with | some v => v.1 | none => 0

theorem LaidAt.new (w : World) : LaidAt (w.alloc (.map #[] 0)) w.heap.size 0 (fun _ => none) :=
  ⟨.map [], World.ownsMap_made _ _ _ _, fun _ => rfl, fun _ _ h => by cases h⟩

theorem LaidAt.frame {S : Nat → Prop} {w w' : World} {b n : Nat} {F : KeyV → Option I64} (h : LaidAt w b n F) (hs : Same S w w') (hb : S b) : LaidAt w' b n F := by
  obtain ⟨D, hown, h1, h2⟩ := h
  have hlt := hown.lt
  obtain ⟨es, clock, hb', r⟩ := hown
  exact ⟨D, ⟨es, clock, (hs b hlt hb).trans hb', r⟩, h1, h2⟩

set_option maxRecDepth 100000 in
theorem LaidAt.look {w : World} {b n : Nat} {F : KeyV → Option I64} (h : LaidAt w b n F) (k : KeyV) :
    (Instr.lookup 71 (.map (some b)) (keyVal k) true).run Try.prog w = .ok (.tuple #[.int .i64 (valOr F k), .bool (F k).isSome]) w := by
  obtain ⟨D, hown, h1, h2⟩ := h
  obtain ⟨v, ps, hr, hv⟩ := hown.look_ok keyedK Try.underlying71 (Try.zeroValue3 w) (plainElem_int Try.underlying3 (by decide)) (keyK k)
  obtain ⟨c, rfl, hc, _⟩ := plainElem_int_inv Try.underlying3 hv
  have hc' := congrArg Prod.fst hc
  simp only at hc'
  rw [hr, h1]
  unfold valOr
  cases hF : F k with
  | none =>
    rw [Maps.atKey_of_not_has (by rw [h1, hF]; rfl)] at hc'
    injection hc' with hc'
    injection hc' with _ hc'
    rw [← hc']
  | some x =>
    rw [h2 k x hF] at hc'
    injection hc' with hc'
    injection hc' with _ hc'
    rw [← hc']

theorem laid_put {w w' : World} {b n n' : Nat} {F : KeyV → Option I64} {D : DataW Unit} (hown : w.ownsMap Try.prog 31 (plainElem Try.prog 3) b n D) (h1 : ∀ k, Maps.has D (kdK.lit k) = (F k).isSome) (h2 : ∀ k v, F k = some v → ∀ z, D.atKey (kdK.lit k) z = .lit (.int .i64 v.1))
    {k : KeyV} {v : I64} (hown' : w'.ownsMap Try.prog 31 (plainElem Try.prog 3) b n' (D.put (kdK.lit k) (.lit (.int .i64 v.1)))) : LaidAt w' b n' (upd F k (some v)) := by
  have htd := hown.tidy keyedK
  have hne : ∀ k', k' ≠ k → kdK.lit k' ≠ kdK.lit k := fun k' hk' x => hk' (okK.inj _ _ x)
  refine ⟨_, hown', fun k' => ?_, fun k' v' hv z => ?_⟩
  · unfold upd
    by_cases hk : k' = k
    · subst hk
      rw [Maps.has_put_same htd.isMap (okK.lit _), if_pos rfl]
      rfl
    · rw [Maps.has_put_other (hne k' hk), if_neg hk, h1]
  · unfold upd at hv
    by_cases hk : k' = k
    · subst hk
      rw [if_pos rfl] at hv
      injection hv with hv
      subst hv
      exact Maps.atKey_put_same htd.isMap (okK.lit _) _ _
    · rw [if_neg hk] at hv
      rw [Maps.atKey_put_other (hne k' hk)]
      exact h2 k' v' hv z

theorem laid_del {w' : World} {b n' : Nat} {F : KeyV → Option I64} {D : DataW Unit} (h1 : ∀ k, Maps.has D (kdK.lit k) = (F k).isSome) (h2 : ∀ k v, F k = some v → ∀ z, D.atKey (kdK.lit k) z = .lit (.int .i64 v.1))
    {k : KeyV} (hown' : w'.ownsMap Try.prog 31 (plainElem Try.prog 3) b n' (D.del (kdK.lit k))) : LaidAt w' b n' (upd F k none) := by
  have hne : ∀ k', k' ≠ k → kdK.lit k' ≠ kdK.lit k := fun k' hk' x => hk' (okK.inj _ _ x)
  refine ⟨_, hown', fun k' => ?_, fun k' v' hv z => ?_⟩
  · unfold upd
    by_cases hk : k' = k
    · subst hk
      rw [Maps.has_del_same, if_pos rfl]
      rfl
    · rw [Maps.has_del_other (hne k' hk), if_neg hk, h1]
  · unfold upd at hv
    by_cases hk : k' = k
    · rw [if_pos hk] at hv
      cases hv
    · rw [if_neg hk] at hv
      rw [Maps.atKey_del_other (hne k' hk)]
      exact h2 k' v' hv z

/-- 'clear(m)'. -/
theorem LaidAt.clear {w : World} {b n : Nat} {F : KeyV → Option I64} (h : LaidAt w b n F) :
    ∃ w', (∀ ty, (Builtin.clear_ #[71] ty #[.map (some b)]).run Try.prog w = .ok (.tuple #[]) w') ∧ LaidAt w' b 0 (fun _ => none) ∧ w.mapTurned w' b := by
  obtain ⟨D, ⟨es, clock, hb, r⟩, h1, h2⟩ := h
  refine ⟨_, fun ty => ?_, ⟨.map [], ⟨#[], clock, ChangeMaps.heap_setBlock_same hb _, ?_, Nat.le_refl _, rfl⟩, fun _ => rfl, fun _ _ h => by cases h⟩, ⟨es, clock, #[], clock, hb, rfl⟩⟩
  · simp [Builtin.clear_, run_underlying Try.underlying71, MapKept.run_getObj_map hb, MapKept.run_setObj_map _ hb, Result.andThen]
    rfl
  · exact ⟨by simp, MapKept.stamped_empty _, by simp⟩

/-- Keys that were seen, each once. -/
def SeenAt (w : World) (b n : Nat) (acc : List KeyV) : Prop :=
  ∃ D : DataW Unit, w.ownsMap Try.prog 31 (plainElem Try.prog 3) b n D ∧ (∀ k, Maps.has D (kdK.lit k) = decide (k ∈ acc)) ∧ Maps.size D = acc.length

theorem seen_put {w w' : World} {b n n' : Nat} {acc : List KeyV} {D : DataW Unit} (hown : w.ownsMap Try.prog 31 (plainElem Try.prog 3) b n D) (h1 : ∀ k, Maps.has D (kdK.lit k) = decide (k ∈ acc)) (h2 : Maps.size D = acc.length)
    {k : KeyV} {d : DataW Unit} (hown' : w'.ownsMap Try.prog 31 (plainElem Try.prog 3) b n' (D.put (kdK.lit k) d)) : SeenAt w' b n' (ins acc k) := by
  have htd := hown.tidy keyedK
  have hne : ∀ k', k' ≠ k → kdK.lit k' ≠ kdK.lit k := fun k' hk' x => hk' (okK.inj _ _ x)
  refine ⟨_, hown', fun k' => ?_, ?_⟩
  · by_cases hk : k' = k
    · subst hk
      rw [Maps.has_put_same htd.isMap (okK.lit _)]
      unfold ins
      split <;> simp [*]
    · rw [Maps.has_put_other (hne k' hk), h1]
      unfold ins
      split <;> simp [*]
  · rw [Maps.size_put htd, h1, h2]
    unfold ins
    by_cases hk : k ∈ acc <;> simp [hk]

end Go.Proofs.Yteboancapfgdeaa
