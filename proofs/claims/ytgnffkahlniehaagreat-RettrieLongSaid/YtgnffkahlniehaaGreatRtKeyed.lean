/- Plain: messages laid down by topic; there and back; what a filter finds among them. No code walked. -/
import Derived.Test.YtgnffkahlniehaaGreatRtBase
import Derived.Test.YtgnffkahlniehaaGreatTrAll
namespace Go.Proofs.Rt
open Go Go.Proofs.Tri Go.Proofs.Tp

abbrev Ents := List (List ByteArray × MsgV)

/-- Is a message one that a trie takes? -/
def taken (m : MsgV) : Bool := decide (chk m.topic = 0) && decide (0 ≤ m.qos) && decide (m.qos ≤ 2)

structure Keyed (b : Ents) : Prop where
  sorted : Sorted (lex ltB) b
  key : ∀ e ∈ b, e.1 = levels e.2.topic ∧ taken e.2 = true

def putB (b : Ents) (m : MsgV) : Ents := if taken m = true then ins (lex ltB) (levels m.topic) m b else b
def bodyOf (l : List MsgV) : Ents := l.foldl putB []

theorem Keyed.nil : Keyed [] := ⟨.nil, by simp⟩
theorem Keyed.put {b : Ents} (h : Keyed b) (m : MsgV) : Keyed (putB b m) := by
  unfold putB
  split
  · rename_i ht
    refine ⟨ins_sorted (lexLin linB) h.sorted, fun e he => ?_⟩
    rcases ins_mem he with rfl | he
    · exact ⟨rfl, ht⟩
    · exact h.key e he
  · exact h
theorem Keyed.era {b : Ents} (h : Keyed b) (p : List ByteArray) : Keyed (era p b) :=
  ⟨era_sorted h.sorted, fun e he => h.key e (List.mem_filter.1 he).1⟩
theorem Keyed.fold {l : List MsgV} : ∀ {b : Ents}, Keyed b → Keyed (l.foldl putB b) := by
  induction l with
  | nil => intro b h; exact h
  | cons m l ih => intro b h; exact ih (h.put m)
theorem keyed_body (l : List MsgV) : Keyed (bodyOf l) := Keyed.fold Keyed.nil

theorem putB_mem {b : Ents} {m : MsgV} {e : List ByteArray × MsgV} (h : e ∈ putB b m) : e.2 = m ∨ e ∈ b := by
  unfold putB at h
  split at h
  · rcases ins_mem h with rfl | h
    · exact .inl rfl
    · exact .inr h
  · exact .inr h
theorem fold_mem {l : List MsgV} : ∀ {b : Ents} {e : List ByteArray × MsgV}, e ∈ l.foldl putB b → e.2 ∈ l ∨ e ∈ b := by
  induction l with
  | nil => intro b e h; exact .inr h
  | cons m l ih =>
    intro b e h
    rcases ih h with h | h
    · exact .inl (List.mem_cons_of_mem _ h)
    · rcases putB_mem h with h | h
      · exact .inl (by rw [h]; simp)
      · exact .inr h
theorem body_mem {l : List MsgV} {e : List ByteArray × MsgV} (h : e ∈ bodyOf l) : e.2 ∈ l := by
  rcases fold_mem h with h | h
  · exact h
  · simp at h

theorem ins_length {p : List ByteArray} {m : MsgV} : ∀ (b : Ents), (ins (lex ltB) p m b).length ≤ b.length + 1
  | [] => by simp [ins]
  | a :: l => by have := ins_length (p := p) (m := m) l; rw [ins]; split; (simp); split; (simp); (simp only [List.length_cons]; omega)
theorem putB_length (b : Ents) (m : MsgV) : (putB b m).length ≤ b.length + 1 := by
  unfold putB; split
  · exact ins_length b
  · omega
theorem fold_length : ∀ (l : List MsgV) (b : Ents), (l.foldl putB b).length ≤ b.length + l.length
  | [], b => by simp
  | m :: l, b => by have := fold_length l (putB b m); have := putB_length b m; simp only [List.foldl_cons, List.length_cons]; omega
theorem body_length (l : List MsgV) : (bodyOf l).length ≤ l.length := by have := fold_length l []; simpa [bodyOf] using this

theorem get_key {b : Ents} (h : Keyed b) {p : List ByteArray} {old : MsgV} (hg : get p b = some old) : levels old.topic = p ∧ taken old = true := by
  have := h.key _ (get_mem hg)
  exact ⟨this.1.symm, this.2⟩

/-- There and back: what stood there is laid down again. -/
theorem back_put {b : Ents} (h : Keyed b) {m old : MsgV} (hm : taken m = true) (hg : get (levels m.topic) b = some old) : putB (putB b m) old = b := by
  obtain ⟨hk, ht⟩ := get_key h hg
  refine sorted_ext (lexLin linB) ((h.put m).put old).sorted h.sorted (fun q => ?_)
  unfold putB
  rw [if_pos ht, if_pos hm, get_ins (lexLin linB) (ins_sorted (lexLin linB) h.sorted), get_ins (lexLin linB) h.sorted, hk]
  by_cases hq : q = levels m.topic
  · rw [if_pos hq, hq, hg]
  · rw [if_neg hq, if_neg hq]
theorem back_era {b : Ents} (h : Keyed b) {m : MsgV} (hm : taken m = true) (hg : get (levels m.topic) b = none) : era (levels m.topic) (putB b m) = b := by
  refine sorted_ext (lexLin linB) ((h.put m).era _).sorted h.sorted (fun q => ?_)
  unfold putB
  rw [if_pos hm, get_era, get_ins (lexLin linB) h.sorted]
  by_cases hq : q = levels m.topic
  · rw [if_pos hq, hq, hg]
  · rw [if_neg hq, if_neg hq]
theorem get_put {b : Ents} (h : Keyed b) {m : MsgV} (hm : taken m = true) : get (levels m.topic) (putB b m) = some m := by
  unfold putB
  rw [if_pos hm, get_ins (lexLin linB) h.sorted, if_pos rfl]

/-- All of them taken out. -/
theorem era_get_none {b : Ents} {p : List ByteArray} (h : get p b = none) : era p b = b := era_none (get_none.1 h)
def eraAll (l : List MsgV) (b : Ents) : Ents := l.foldl (fun b m => era (levels m.topic) b) b
theorem eraAll_mem {l : List MsgV} : ∀ {b : Ents} {e : List ByteArray × MsgV}, e ∈ eraAll l b → e ∈ b ∧ ∀ m ∈ l, e.1 ≠ levels m.topic := by
  induction l with
  | nil => intro b e h; exact ⟨h, by simp⟩
  | cons m l ih =>
    intro b e h
    obtain ⟨h1, h2⟩ := ih (b := era (levels m.topic) b) h
    obtain ⟨h3, h4⟩ := List.mem_filter.1 h1
    refine ⟨h3, fun m' hm' => ?_⟩
    rcases List.mem_cons.1 hm' with rfl | hm'
    · simpa using h4
    · exact h2 m' hm'
theorem eraAll_body (l : List MsgV) : eraAll l (bodyOf l) = [] := by
  rw [List.eq_nil_iff_forall_not_mem]
  intro e he
  obtain ⟨h1, h2⟩ := eraAll_mem he
  exact h2 e.2 (body_mem h1) ((keyed_body l).key e h1).1

/-! ### What a list would tell -/
/-- Of each topic the last one that is taken, of those that a test lets in. -/
def lastCount (q : MsgV → Bool) : List MsgV → Nat
  | [] => 0
  | m :: r => (if (taken m && !(r.any fun x => decide (x.topic = m.topic) && taken x) && q m) = true then 1 else 0) + lastCount q r

theorem count_ins {p : List ByteArray} {m : MsgV} {f : List ByteArray × MsgV → Bool} : ∀ {b : Ents}, Sorted (lex ltB) b → (ins (lex ltB) p m b).countP f = (era p b).countP f + (if f (p, m) = true then 1 else 0)
  | [], _ => by simp [ins, era]
  | a :: l, hs => by
    have hl := (List.pairwise_cons.1 hs)
    rw [ins]
    by_cases h2 : a.1 = p
    · rw [if_pos h2]
      have : era p (a :: l) = l := by
        unfold era
        rw [List.filter_cons, if_neg (by simp [h2])]
        exact List.filter_eq_self.2 (fun e he => by
          have := (lexLin linB).ne (hl.1 e he)
          rw [h2] at this
          simpa using fun e1 => this e1.symm)
      rw [this, List.countP_cons]
    · rw [if_neg h2]
      by_cases h1 : lex ltB p a.1 = true
      · rw [if_pos h1]
        have hne : ∀ e ∈ a :: l, e.1 ≠ p := by
          intro e he e1
          rcases List.mem_cons.1 he with rfl | he
          · exact h2 e1
          · exact (lexLin linB).ne ((lexLin linB).trans _ _ _ h1 (hl.1 e he)) e1.symm
        rw [era_none hne, List.countP_cons]
      · rw [if_neg h1]
        have : era p (a :: l) = a :: era p l := by
          unfold era
          rw [List.filter_cons, if_pos (by simpa using h2)]
        rw [this, List.countP_cons, List.countP_cons, count_ins hl.2]
        omega

theorem fold_count (q : MsgV → Bool)   : ∀ (l : List MsgV) (b : Ents), Keyed b →
    (l.foldl putB b).countP (fun e => q e.2) = lastCount q l + b.countP (fun e => q e.2 && !(l.any fun x => decide (x.topic = e.2.topic) && taken x))
  | [], b, _ => by simp [lastCount]
  | m :: r, b, h => by
    rw [List.foldl_cons, fold_count q r (putB b m) (h.put m), lastCount]
    by_cases hm : taken m = true
    · have e1 : putB b m = ins (lex ltB) (levels m.topic) m b := by unfold putB; rw [if_pos hm]
      rw [e1, count_ins h.sorted]
      have e2 : (era (levels m.topic) b).countP (fun e => q e.2 && !(r.any fun x => decide (x.topic = e.2.topic) && taken x)) = b.countP (fun e => q e.2 && !((m :: r).any fun x => decide (x.topic = e.2.topic) && taken x)) := by
        unfold era
        rw [List.countP_filter]
        refine List.countP_congr (fun e he => ?_)
        have hk := h.key e he
        have : (e.1 = levels m.topic) ↔ (m.topic = e.2.topic) := ⟨fun x => levels_inj (x.symm.trans hk.1), fun x => by rw [hk.1, x]⟩
        simp only [List.any_cons, hm, Bool.and_true, ne_eq, this]
        by_cases hx : m.topic = e.2.topic <;> simp [hx]
      rw [e2]
      simp only [hm, Bool.true_and]
      have e3 : (q m && !(r.any fun x => decide (x.topic = m.topic) && taken x)) = (!(r.any fun x => decide (x.topic = m.topic) && taken x) && q m) := Bool.and_comm _ _
      rw [e3]
      omega
    · have hm' : taken m = false := by simpa using hm
      have e1 : putB b m = b := by unfold putB; rw [if_neg hm]
      rw [e1, hm']
      have e2 : b.countP (fun e => q e.2 && !(r.any fun x => decide (x.topic = e.2.topic) && taken x)) = b.countP (fun e => q e.2 && !((m :: r).any fun x => decide (x.topic = e.2.topic) && taken x)) := by
        refine List.countP_congr (fun e _ => ?_)
        simp [List.any_cons, hm']
      rw [e2]
      simp

/-- As many as a list would tell. -/
theorem body_count (q : MsgV → Bool) (l : List MsgV) : (bodyOf l).countP (fun e => q e.2) = lastCount q l := by
  have := fold_count q l [] Keyed.nil
  simpa [bodyOf] using this

/-- The last one of a topic stands there. -/
theorem last_mem {m : MsgV} : ∀ (l : List MsgV) (b : Ents), Keyed b → taken m = true → (∃ a c, l = a ++ m :: c ∧ ¬ ∃ x ∈ c, x.topic = m.topic ∧ taken x = true) →
    get (levels m.topic) (l.foldl putB b) = some m := by
  intro l b hb hm ⟨a, c, hl, hc⟩
  rw [hl, List.foldl_append, List.foldl_cons]
  have hk : Keyed (a.foldl putB b) := Keyed.fold hb
  generalize a.foldl putB b = b' at hk ⊢
  clear hl
  have g0 := get_put hk hm
  have hk0 := hk.put m
  generalize putB b' m = b2 at g0 hk0 ⊢
  clear hk
  induction c generalizing b2 with
  | nil => exact g0
  | cons x c ih =>
    rw [List.foldl_cons]
    refine ih (fun ⟨y, hy, h⟩ => hc ⟨y, List.mem_cons_of_mem _ hy, h⟩) (putB b2 x) ?_ (hk0.put x)
    unfold putB
    split
    · rename_i hx
      rw [get_ins (lexLin linB) hk0.sorted]
      by_cases he : levels m.topic = levels x.topic
      · exact absurd ⟨x, by simp, (levels_inj he).symm, hx⟩ hc
      · rw [if_neg he]; exact g0
    · exact g0

/-! ### A filter -/
def fSign (f : ByteArray) : Bool := decide ((levels f).head?.map (·.data.toList) = some [43]) || decide ((levels f).head?.map (·.data.toList) = some [35])

end Go.Proofs.Rt
