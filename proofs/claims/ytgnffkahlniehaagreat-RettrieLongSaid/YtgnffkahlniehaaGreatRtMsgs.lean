/- Plain: a row of messages in memory, four cells each. No code walked. -/
import Derived.Test.YtgnffkahlniehaaGreatRtSameM
namespace Go.Proofs.YtgnffkahlniehaaGreat
open Go Go.RowKit Go.Proofs.Gs Go.Proofs.Tri Go.Proofs.Rt Go.Proofs.Tp

def msgCells (m : MsgV) (pv : Value) : List Value := [.string m.topic, pv, .int .i64 m.qos, .bool m.ret]
def msgRow : List MsgV → List Value → List Value
  | m :: ms, pv :: pvs => msgCells m pv ++ msgRow ms pvs
  | _, _ => []

theorem msgRow_length : ∀ {ms : List MsgV} {pvs : List Value}, pvs.length = ms.length → (msgRow ms pvs).length = ms.length * 4
  | [], pvs, h => by cases pvs <;> simp [msgRow]
  | m :: ms, [], h => by simp at h
  | m :: ms, pv :: pvs, h => by
    simp only [msgRow, msgCells, List.length_append, List.length_cons, List.length_nil]
    rw [msgRow_length (by simpa using h)]
    omega

theorem msgRow_get : ∀ {ms : List MsgV} {pvs : List Value} {i o : Nat} {m : MsgV} {pv u : Value}, ms[i]? = some m → pvs[i]? = some pv → (msgCells m pv)[o]? = some u → (msgRow ms pvs)[i * 4 + o]? = some u
  | [], pvs, i, o, m, pv, u, h, _, _ => by simp at h
  | m' :: ms, [], i, o, m, pv, u, _, h, _ => by simp at h
  | m' :: ms, pv' :: pvs, 0, o, m, pv, u, h1, h2, h3 => by
    simp at h1 h2
    subst h1; subst h2
    have ho : o < (msgCells m' pv').length := (List.getElem?_eq_some_iff.1 h3).1
    rw [Nat.zero_mul, Nat.zero_add, msgRow, List.getElem?_append_left ho]
    exact h3
  | m' :: ms, pv' :: pvs, i + 1, o, m, pv, u, h1, h2, h3 => by
    have e : (i + 1) * 4 + o = (msgCells m' pv').length + (i * 4 + o) := by simp [msgCells]; omega
    rw [e, msgRow, List.getElem?_append_right (by omega), Nat.add_sub_cancel_left]
    exact msgRow_get (by simpa using h1) (by simpa using h2) h3

theorem msgRow_app : ∀ {ms : List MsgV} {pvs : List Value} {m : MsgV} {pv : Value}, pvs.length = ms.length → msgRow (ms ++ [m]) (pvs ++ [pv]) = msgRow ms pvs ++ msgCells m pv
  | [], [], m, pv, _ => by simp [msgRow]
  | [], _ :: _, m, pv, h => by simp at h
  | _ :: _, [], m, pv, h => by simp at h
  | m' :: ms, pv' :: pvs, m, pv, h => by
    simp only [List.cons_append, msgRow]
    rw [msgRow_app (by simpa using h), List.append_assoc]

/-- A slice of messages. -/
def MsgsAt (F : Nat → Prop) (w : World) (v : Value) (ms : List MsgV) : Prop :=
  ∃ pvs : List Value, pvs.length = ms.length ∧ RowF F w 4 v ms.length (msgRow ms pvs) ∧ ∀ (i : Nat) (m : MsgV) (pv : Value), ms[i]? = some m → pvs[i]? = some pv → RowF F w 1 pv m.pay.length (payCells m.pay)

theorem MsgsAt.keep {F : Nat → Prop} {w w' : World} {v : Value} {ms : List MsgV} (h : MsgsAt F w v ms) (hs : Same F w w') : MsgsAt F w' v ms := by
  obtain ⟨pvs, h1, h2, h3⟩ := h
  exact ⟨pvs, h1, h2.keep hs, fun i m pv e1 e2 => (h3 i m pv e1 e2).keep hs⟩
theorem MsgsAt.mono {F F' : Nat → Prop} {w : World} {v : Value} {ms : List MsgV} (h : MsgsAt F w v ms) (hF : ∀ b, F b → F' b) : MsgsAt F' w v ms := by
  obtain ⟨pvs, h1, h2, h3⟩ := h
  exact ⟨pvs, h1, h2.mono hF, fun i m pv e1 e2 => (h3 i m pv e1 e2).mono hF⟩

/-- A message of a slice. -/
theorem MsgsAt.one {F : Nat → Prop} {w : World} {b off cap : Nat} {n : Nat} {ms : List MsgV} (h : MsgsAt F w (.slice (some ⟨b, off, none⟩) n cap) ms) {i : Nat} {m : MsgV} (hm : ms[i]? = some m) :
    ∃ pv, w.cell? ⟨b, off + i * 4, none⟩ = some (.string m.topic) ∧ w.cell? ⟨b, off + (i * 4 + 1), none⟩ = some pv ∧ w.cell? ⟨b, off + (i * 4 + 2), none⟩ = some (.int .i64 m.qos) ∧ w.cell? ⟨b, off + (i * 4 + 3), none⟩ = some (.bool m.ret) ∧ MsgVal F w (.agg #[.string m.topic, pv, .int .i64 m.qos, .bool m.ret]) m := by
  obtain ⟨pvs, h1, h2, h3⟩ := h
  have hi := (List.getElem?_eq_some_iff.1 hm).1
  obtain ⟨pv, hpv⟩ : ∃ pv, pvs[i]? = some pv := ⟨_, List.getElem?_eq_getElem (by omega)⟩
  rcases RowAt.cases h2.1 with ⟨h0, _⟩ | ⟨_, b', off', cap', e, _, _, _, hc⟩
  · omega
  · injection e with e1 e2 e3
    injection e1 with e1
    injection e1 with e1 e4
    subst e1; subst e4
    have g := fun o u (ho : (msgCells m pv)[o]? = some u) => hc _ u (msgRow_get hm hpv ho)
    exact ⟨pv, g 0 _ rfl, g 1 _ rfl, g 2 _ rfl, g 3 _ rfl, pv, rfl, h3 i m pv hm hpv⟩
end Go.Proofs.YtgnffkahlniehaaGreat
