/- Plain: for the law RettrieFinds: the order of what is found; parts of a row; the last ones. No code walked. -/
import Derived.Test.YtgnffkahlniehaaGreatRtKnown
namespace Go.Proofs.YtgnffkahlniehaaGreat
open Go Go.RowKit Go.Proofs.Gs Go.Proofs.Tri Go.Proofs.Rt Go.Proofs.Tp

theorem cmpL_lex : ∀ (a b : List ByteArray), lex ltB a b = true → cmpL a b = -1
  | [], [], h => by simp [lex] at h
  | [], y :: b, _ => rfl
  | x :: a, [], h => by simp [lex] at h
  | x :: a, y :: b, h => by
    rw [lex_cons] at h
    by_cases e : x = y
    · rw [if_pos e] at h
      have h0 : cmpB x y = 0 := (cmpB_zero x y).2 e
      show (if cmpB x y = 0 then cmpL a b else cmpB x y) = -1
      rw [if_pos h0]
      exact cmpL_lex a b h
    · rw [if_neg e] at h
      have h1 := ltB_iff.1 h
      show (if cmpB x y = 0 then cmpL a b else cmpB x y) = -1
      rw [if_neg (by omega)]
      exact h1

/-- What is found lies in order. -/
theorem found_sorted {B : Ents} (hB : Keyed B) (q : MsgV → Bool) : (vals (B.filter (fun e => q e.2))).Pairwise (fun a b => cmpT a.topic b.topic = -1) := by
  unfold vals
  rw [List.pairwise_map]
  refine (List.Pairwise.filter _ hB.sorted).imp_of_mem (fun {a b} ha hb h => ?_)
  have h1 := (hB.key a (List.mem_filter.1 ha).1).1
  have h2 := (hB.key b (List.mem_filter.1 hb).1).1
  rw [h1, h2] at h
  exact cmpL_lex _ _ h
theorem found_next {l : List MsgV} (h : l.Pairwise (fun a b => cmpT a.topic b.topic = -1)) {k : Nat} {a b : MsgV} (h1 : l[k]? = some a) (h2 : l[k + 1]? = some b) : cmpT a.topic b.topic = -1 := by
  obtain ⟨i1, e1⟩ := List.getElem?_eq_some_iff.1 h1
  obtain ⟨i2, e2⟩ := List.getElem?_eq_some_iff.1 h2
  have := List.pairwise_iff_getElem.1 h k (k + 1) i1 i2 (by omega)
  rw [e1, e2] at this
  exact this

theorem found_length (l : List MsgV) (q : MsgV → Bool) : (vals ((bodyOf l).filter (fun e => q e.2))).length = lastCount q l := by
  unfold vals
  rw [List.length_map, ← List.countP_eq_length_filter, body_count]

/-- Of a topic's messages, is there a later one that is taken? (The topic's own check has been made.) -/
def later (m : MsgV) (r : List MsgV) : Bool := r.any fun x => decide (x.topic = m.topic) && (decide (0 ≤ x.qos) && decide (x.qos ≤ 2))
theorem later_taken {m : MsgV} (hc : chk m.topic = 0) (r : List MsgV) : later m r = r.any fun x => decide (x.topic = m.topic) && taken x := by
  unfold later
  congr 1
  funext x
  by_cases h : x.topic = m.topic
  · unfold taken
    rw [h, hc]
    simp
  · simp [h]
theorem later_app (m x : MsgV) (r : List MsgV) : later m (r ++ [x]) = (later m r || (decide (x.topic = m.topic) && (decide (0 ≤ x.qos) && decide (x.qos ≤ 2)))) := by
  unfold later
  rw [List.any_append]
  simp
theorem later_nil (m : MsgV) : later m [] = false := rfl

theorem count_step {q : MsgV → Bool} {l : List MsgV} {i : Nat} {m : MsgV} (h : l[i]? = some m) : lastCount q (l.drop i) = (if (taken m && !((l.drop (i + 1)).any fun x => decide (x.topic = m.topic) && taken x) && q m) = true then 1 else 0) + lastCount q (l.drop (i + 1)) := by
  obtain ⟨hi, e⟩ := List.getElem?_eq_some_iff.1 h
  rw [List.drop_eq_getElem_cons hi, e, lastCount]

theorem last_found {l : List MsgV} {i : Nat} {m : MsgV} (h : l[i]? = some m) (ht : taken m = true) (hl : (l.drop (i + 1)).any (fun x => decide (x.topic = m.topic) && taken x) = false) (q : MsgV → Bool) (hq : q m = true) : m ∈ vals ((bodyOf l).filter (fun e => q e.2)) := by
  obtain ⟨hi, e⟩ := List.getElem?_eq_some_iff.1 h
  have hg := last_mem l [] Keyed.nil ht ⟨l.take i, l.drop (i + 1), by rw [← e, ← List.drop_eq_getElem_cons hi, List.take_append_drop], fun ⟨x, hx, h1, h2⟩ => by
    have := List.any_eq_false.1 hl x hx
    simp [h1, h2] at this⟩
  unfold vals
  exact List.mem_map.2 ⟨(levels m.topic, m), List.mem_filter.2 ⟨get_mem hg, hq⟩, rfl⟩

/-- One message out of a row of them. -/
theorem msgs_sub {F : Nat → Prop} {w : World} {b off cap n : Nat} {ms : List MsgV} (h : MsgsAt F w (.slice (some ⟨b, off, none⟩) n cap) ms) {k : Nat} {m : MsgV} (hk : ms[k]? = some m) :
    MsgsAt F w (.slice (some ⟨b, off + k * 4, none⟩) 1 (cap - k)) [m] := by
  obtain ⟨pvs, h1, h2, h3⟩ := h
  have hi := (List.getElem?_eq_some_iff.1 hk).1
  obtain ⟨pv, hpv⟩ : ∃ pv, pvs[k]? = some pv := ⟨_, List.getElem?_eq_getElem (by omega)⟩
  have hF := h2.2
  rcases RowAt.cases h2.1 with ⟨h0, _⟩ | ⟨_, b', off', cap', e, q1, q2, q3, hc⟩
  · omega
  · injection e with e1 e2 e3
    injection e1 with e1
    injection e1 with e1 e4
    subst e1; subst e4; subst e3
    refine ⟨[pv], rfl, ⟨⟨by simp [msgRow, msgCells], _, _, rfl, by show 1 ≤ cap - k; omega, by unfold maxLen; omega, .inr ⟨b, _, rfl, q3, fun j u hu => ?_⟩⟩, fun x hx => hF x (by simpa [Value.ownBlock] using hx)⟩, fun i m' pv' g1 g2 => ?_⟩
    · have hu' : (msgCells m pv)[j]? = some u := by simpa [msgRow] using hu
      have := hc _ u (msgRow_get hk hpv hu')
      rw [← Nat.add_assoc] at this
      exact this
    · have hi0 : i = 0 := by have := (List.getElem?_eq_some_iff.1 g1).1; simp at this; omega
      subst hi0
      injection g1 with g1
      injection g2 with g2
      subst g1; subst g2
      exact h3 k m pv hk hpv
end Go.Proofs.YtgnffkahlniehaaGreat
