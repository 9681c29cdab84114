/- Plain: a region that draws its order, walked once: first what yields its value in whatever world, then what yields it in every world of a class, then the calls that stay in the class, then the rest, which stands in one order. No program in sight. -/
import Derived.StillTail
import Derived.OrdersHeld
import Derived.Deep.QuietTactic
import Derived.BigQuiet
import Derived.Lib.QuietBelow
namespace Go.Proofs.Rg
open Go Go.RowKit

section
variable {P : Program} {ops : Array Oper} {md : Region.Mode} {C S : World → Prop} {Q : Exit → Act → World → Prop}

/-- Operations that hand back a value, or panic, and call nobody. -/
def valueKind : Op → Bool
  | .move _ | .assign _ | .pick .. | .build .. | .load .. | .binOp .. | .unOp .. | .field .. | .fieldAddr .. | .indexAddr .. | .index .. | .lookup .. | .extract .. | .makeInterface .. | .slice .. => true
  | .nilCheck _ => true
  | _ => false

theorem value_of {s : Sem Value} {w w' : World} {n : Next} (h : (do pure (Next.value (← s)) : Sem Next).run P w = .ok n w') : ∃ u, n = .value u := by
  have e : (do pure (Next.value (← s)) : Sem Next).run P w = (s.run P w).andThen (fun x w => (pure (Next.value x) : Sem Next).run P w) := by simp [go_sem]
  rw [e] at h
  cases hs : s.run P w with
  | ok x w1 =>
    rw [hs] at h
    simp [Result.andThen, go_sem] at h
    exact ⟨x, h.1.symm⟩
  | halt x w1 =>
    rw [hs] at h
    simp [Result.andThen] at h

theorem valueKind_run {o : Oper} {ρ : Operand → Value} {w w' : World} {n : Next} (hk : valueKind o.op = true) (h : (execOp ρ o).run P w = .ok n w') : ∃ u, n = .value u := by
  unfold execOp at h
  cases ho : o.op <;> rw [ho] at hk h <;> first
    | (cases hk; done)
    | exact value_of h
    | (simp [go_sem] at h; exact ⟨_, h.1.symm⟩)
    | skip
  case pick c a b =>
    have h' : (do pure (Next.value (← (do pure (if ← asBool (ρ c) then ρ a else ρ b) : Sem Value))) : Sem Next).run P w = .ok n w' := by
      rw [← h]
      simp only [bind_assoc, pure_bind]
    exact value_of h'
  case nilCheck x =>
    dsimp only at h
    split at h
    · simp [go_sem] at h
    · simp [go_sem] at h
    · simp [go_sem] at h
    · split at h
      · simp [go_sem] at h
      · simp [go_sem] at h
        generalize Sem.run P _ w = r at h
        cases r with
        | halt x w1 => simp [Result.andThen] at h
        | ok a w1 =>
          simp [Result.andThen] at h
          split at h
          · injection h with h _
            exact ⟨_, h.symm⟩
          · cases h
      · simp [go_sem] at h
        exact ⟨_, h.1.symm⟩
    · simp [go_sem] at h
      exact ⟨_, h.1.symm⟩

/-- An operation whose result is a value, quiet in a class: it yields that value there, and the world that it got. -/
theorem yieldsIf_of_qOp {i : Nat} {o : Oper} {a : Act} {K : Act → Prop} (hi : ops[i]? = some o) (hk : valueKind o.op = true) (h : qOp P ops C i K a) : ∃ v, YieldsIf P ops C o v a ∧ K (a.put o.dst v) := by
  unfold qOp at h
  simp only [hi] at h
  by_cases hw : Region.wanted o (yielded ops a.tmps) = true
  · simp only [hw, if_true] at h
    obtain ⟨v, h1, h2⟩ := h
    refine ⟨v, .inl ⟨hw, fun w hC => ?_⟩, h2⟩
    have h3 := h1 w hC
    unfold Oper.quietAt at h3
    cases hr : (execOp a.eval o).run P w with
    | halt x w' => rw [hr] at h3; simp only [Oper.quietUpon] at h3
    | ok n w' =>
      obtain ⟨u, rfl⟩ := valueKind_run hk hr
      rw [hr] at h3
      simp only [Oper.quietUpon] at h3
      rw [h3.1, h3.2]
  · simp only [hw] at h
    exact ⟨undef, .inr ⟨by simpa using hw, rfl⟩, h⟩

/-- Whatever order is picked from here on; behind an operation of 'pre' the world is of the class. -/
def wpAnyP (P : Program) (md : Region.Mode) (ops : Array Oper) (Q : Exit → Act → World → Prop) (pre : Nat → Bool) (C : World → Prop) : Nat → Array Bool → Act → World → Prop
  | 0, listed, a, w => Region.ready md ops listed = [] ∧ Q .normal a w
  | f + 1, listed, a, w =>
    (Region.ready md ops listed = [] → Q .normal a w) ∧
    ∀ i ∈ Region.ready md ops listed, wpOp P ops Q i (fun a' w' => (pre i = true → C w') ∧ wpAnyP P md ops Q pre C f (listed.setIfInBounds i true) a' w') a w

theorem wpAny_of_P {pre : Nat → Bool} : ∀ (f : Nat) (listed : Array Bool) (a : Act) (w : World), wpAnyP P md ops Q pre C f listed a w → wpAny P md ops Q f listed a w
  | 0, _, _, _, h => h
  | f + 1, _, _, _, h => ⟨h.1, fun i hi => wpOp_mono (fun a' w' h' => wpAny_of_P f _ a' w' h'.2) (h.2 i hi)⟩

/-- What an operation waits for at once, as a row of bits. -/
def edgesMask (md : Region.Mode) (ops : Array Oper) (k : Nat) : Nat :=
  match ops[k]? with
  | none => 0
  | some o => o.after.toList.foldl (fun m e => if Region.binds md e then m ||| (1 <<< e.on) else m) 0

/-- .. and through others. -/
def needs (md : Region.Mode) (ops : Array Oper) : Nat → Nat → Nat
  | 0, m => m
  | k + 1, m => needs md ops k (if m.testBit k then m ||| edgesMask md ops k else m)

/-- j waits for p, at once or through others. -/
def waitsT (md : Region.Mode) (ops : Array Oper) (_F j p : Nat) : Bool := (needs md ops j (edgesMask md ops j)).testBit p

structure Inv (md : Region.Mode) (ops : Array Oper) (listed : Array Bool) : Prop where
  size : listed.size = ops.size
  closed : ∀ j oj, ops[j]? = some oj → listed.getD j false = true → ∀ e ∈ oj.after, Region.binds md e = true → listed.getD e.on false = true

theorem Inv.set {i : Nat} {listed : Array Bool} (inv : Inv md ops listed) (hi : i ∈ Region.ready md ops listed) : Inv md ops (listed.setIfInBounds i true) := by
  obtain ⟨_, oi, hoi, hall⟩ := mem_ready.1 hi
  refine ⟨by simp [inv.size], fun j oj hj hl e he hb => ?_⟩
  by_cases hij : i = j
  · subst hij
    have : oj = oi := Option.some.inj (hj.symm.trans hoi)
    subst this
    exact getD_set_true (hall e he hb)
  · rw [getD_set_ne false hij] at hl
    exact getD_set_true (inv.closed j oj hj hl e he hb)

def Blocks (md : Region.Mode) (ops : Array Oper) (j p : Nat) : Prop := ∀ listed : Array Bool, Inv md ops listed → listed.getD p false = false → listed.getD j false = false ∧ j ∉ Region.ready md ops listed

theorem Blocks.edge {j p : Nat} {oj : Oper} (hj : ops[j]? = some oj) {e : Edge} (he : e ∈ oj.after) (hb : Region.binds md e = true) (hp : e.on = p) : Blocks md ops j p := fun listed inv hun => by
  constructor
  · cases hl : listed.getD j false with
    | false => rfl
    | true =>
      have := inv.closed j oj hj hl e he hb
      rw [hp, hun] at this
      cases this
  · intro hr
    obtain ⟨_, o', ho', hall⟩ := mem_ready.1 hr
    have : o' = oj := Option.some.inj (ho'.symm.trans hj)
    subst this
    have := hall e he hb
    rw [hp, hun] at this
    cases this

theorem Blocks.trans {j k p : Nat} (h : Blocks md ops j k) (h' : Blocks md ops k p) : Blocks md ops j p := fun listed inv hun => h listed inv (h' listed inv hun).1

theorem testBit_or_one {m n p : Nat} (h : (m ||| 1 <<< n).testBit p = true) : m.testBit p = true ∨ p = n := by
  rw [Nat.testBit_or, Bool.or_eq_true] at h
  rcases h with h | h
  · exact .inl h
  · right
    rw [Nat.one_shiftLeft, Nat.testBit_two_pow] at h
    exact (of_decide_eq_true h).symm

theorem edgesMask_blocks {k p : Nat} (h : (edgesMask md ops k).testBit p = true) : Blocks md ops k p := by
  unfold edgesMask at h
  cases hk : ops[k]? with
  | none => rw [hk] at h; simp at h
  | some o =>
    rw [hk] at h
    have gen : ∀ (l : List Edge) (m : Nat), (∀ e ∈ l, e ∈ o.after) → (∀ p, m.testBit p = true → Blocks md ops k p) → ∀ p, (l.foldl (fun m e => if Region.binds md e then m ||| (1 <<< e.on) else m) m).testBit p = true → Blocks md ops k p := by
      intro l
      induction l with
      | nil => intro m _ hm p hp; exact hm p hp
      | cons e l ih =>
        intro m hl hm p hp
        rw [List.foldl_cons] at hp
        refine ih _ (fun x hx => hl x (by simp [hx])) (fun q hq => ?_) p hp
        by_cases hb : Region.binds md e = true
        · rw [if_pos hb] at hq
          rcases testBit_or_one hq with h | h
          · exact hm q h
          · exact Blocks.edge hk (hl e (by simp)) hb h.symm
        · rw [if_neg hb] at hq
          exact hm q hq
    exact gen _ _ (fun e he => by simpa using he) (fun q hq => by simp at hq) p h

theorem needs_blocks {j : Nat} : ∀ (k m : Nat), (∀ p, m.testBit p = true → Blocks md ops j p) → ∀ p, (needs md ops k m).testBit p = true → Blocks md ops j p
  | 0, m, hm, p, h => hm p h
  | k + 1, m, hm, p, h => by
    unfold needs at h
    refine needs_blocks k _ (fun q hq => ?_) p h
    by_cases hk : m.testBit k = true
    · rw [if_pos hk, Nat.testBit_or, Bool.or_eq_true] at hq
      rcases hq with h | h
      · exact hm q h
      · exact (hm k hk).trans (edgesMask_blocks h)
    · rw [if_neg hk] at hq
      exact hm q hq

theorem waitsT_not {listed : Array Bool} {p : Nat} (inv : Inv md ops listed) (hp : listed.getD p false = false) (f j : Nat) (h : waitsT md ops f j p = true) : listed.getD j false = false ∧ j ∉ Region.ready md ops listed :=
  needs_blocks j _ (fun _ hq => edgesMask_blocks hq) p h listed inv hp

theorem takeP {pre : Nat → Bool} {F i : Nat} {oi : Oper} {v : Value} (hi : ops[i]? = some oi) (hsel : ∀ (j : Nat) (o : Oper) cs b, ops[j]? = some o → o.op ≠ .select cs b)
    (hQ : ∀ c a w, Q (.panic c) (a.put oi.dst v) w → Q (.panic c) a w) (hSi : ∀ w, S w → pre i = true → C w) :
    ∀ (f : Nat) (listed : Array Bool) (a : Act) (w : World), Inv md ops listed → (∀ j, j < ops.size → j ≠ i → listed.getD j true = false → (∀ w, (pre j = true → C w) → S w) ∨ waitsT md ops F j i = true) →
      (∀ j oj, ops[j]? = some oj → j ≠ i → listed.getD j true = false → (∀ e ∈ oj.after, Region.binds md e = true → e.on ≠ i) → oi.apart ops oj = true) →
      i ∈ Region.ready md ops listed → YieldsIf P ops S oi v a → S w →
      wpAnyP P md ops Q pre C f (listed.setIfInBounds i true) (a.put oi.dst v) w → wpAnyP P md ops Q pre C (f + 1) listed a w := by
  intro f
  induction f with
  | zero =>
    intro listed a w _ _ _ hr hy hS H
    refine ⟨fun h => (by rw [h] at hr; cases hr), fun j hj => ?_⟩
    by_cases hji : j = i
    · subst hji; exact hy.wpOp hi hS ⟨hSi w hS, H⟩
    · have := ready_mono hj hji
      rw [H.1] at this
      cases this
  | succ f ih =>
    intro listed a w inv hstep hfree hr hy hS H
    refine ⟨fun h => (by rw [h] at hr; cases hr), fun j hj => ?_⟩
    by_cases hji : j = i
    · subst hji; exact hy.wpOp hi hS ⟨hSi w hS, H⟩
    · have h1 := H.2 j (ready_mono hj hji)
      obtain ⟨hjun, oj, hoj, hall⟩ := mem_ready.1 hj
      have hun := getD_both (mem_ready.1 hr).1
      have hnot : ∀ e ∈ oj.after, Region.binds md e = true → e.on ≠ i := fun e he hb heq => by
        have h1 := hall e he hb
        rw [heq, hun] at h1
        cases h1
      have hjs : j < ops.size := (Array.getElem?_eq_some_iff.1 hoj).1
      have hpres : ∀ w, (pre j = true → C w) → S w := (hstep j hjs hji hjun).resolve_right (fun hw => (waitsT_not inv hun F j hw).2 hj)
      have h2 := wpOp_putIf hoj (hfree j oj hoj hji hjun hnot) (fun cs b => hsel i oi cs b hi) (fun cs b => hsel j oj cs b hoj) hQ hy h1
      have hfree' : ∀ k ok, ops[k]? = some ok → k ≠ i → (listed.setIfInBounds j true).getD k true = false →
          (∀ e ∈ ok.after, Region.binds md e = true → e.on ≠ i) → oi.apart ops ok = true := fun k ok hk hki hun hno => by
        refine hfree k ok hk hki ?_ hno
        by_cases hjk : j = k
        · subst hjk; exact hjun
        · rw [getD_set_ne true hjk] at hun; exact hun
      have hstep' : ∀ k, k < ops.size → k ≠ i → (listed.setIfInBounds j true).getD k true = false → (∀ w, (pre k = true → C w) → S w) ∨ waitsT md ops F k i = true := fun k hk hki hun => by
        refine hstep k hk hki ?_
        by_cases hjk : j = k
        · subst hjk; exact hjun
        · rw [getD_set_ne true hjk] at hun; exact hun
      refine wpOp_mono (fun a' w' h3 => ⟨h3.2.1, ih (listed.setIfInBounds j true) a' w' (inv.set hj) hstep' hfree' (ready_mono hr (Ne.symm hji)) h3.1 (hpres w' h3.2.1) ?_⟩) h2
      rw [Array.setIfInBounds_comm _ _ hji]
      exact h3.2.2

def pick (ops : Array Oper) (is : List Nat) : List Oper := is.filterMap fun i => ops[i]?

theorem pick_cons {i : Nat} {o : Oper} {is : List Nat} (h : ops[i]? = some o) : pick ops (i :: is) = o :: pick ops is := by
  unfold pick
  rw [List.filterMap_cons_some h]

def after (listed : Array Bool) : List Nat → Array Bool
  | [] => listed
  | i :: is => after (listed.setIfInBounds i true) is

def takeB (md : Region.Mode) (ops : Array Oper) (ok : Array Bool → Nat → Bool) : List Nat → Array Bool → Bool
  | [], _ => true
  | i :: is, listed => (Region.ready md ops listed).contains i && Region.free md ops listed i && (match ops[i]? with | some o => valueKind o.op | none => false) && ok listed i && takeB md ops ok is (listed.setIfInBounds i true)

/-- A row of operations is taken first, one behind the other. -/
theorem takeL {pre : Nat → Bool} {ok : Array Bool → Nat → Bool} {F : Nat} (hs : Region.noSelect ops = true) (hQ : ∀ c a d v w, Q (.panic c) (a.put d v) w → Q (.panic c) a w)
    (hok : ∀ listed i, ok listed i = true → (∀ w, S w → pre i = true → C w) ∧ ∀ j, j < ops.size → j ≠ i → listed.getD j true = false → (∀ w, (pre j = true → C w) → S w) ∨ waitsT md ops F j i = true) {w : World} (hS : S w) {K : Act → Prop} {g : Nat} :
    ∀ (is : List Nat) (listed : Array Bool) (a : Act), takeB md ops ok is listed = true → Inv md ops listed → wpQuiet P ops S K (pick ops is) a →
      (∀ a', K a' → Inv md ops (after listed is) → wpAnyP P md ops Q pre C g (after listed is) a' w) → wpAnyP P md ops Q pre C (g + is.length) listed a w
  | [], listed, a, _, inv, h, hK => hK a h inv
  | i :: is, listed, a, hB, inv, h, hK => by
    simp only [takeB, Bool.and_eq_true] at hB
    obtain ⟨⟨⟨⟨hr, hf⟩, hk⟩, ho⟩, hB'⟩ := hB
    have hr' : i ∈ Region.ready md ops listed := by simpa using hr
    obtain ⟨_, o, hi, _⟩ := mem_ready.1 hr'
    rw [hi] at hk
    rw [pick_cons hi] at h
    have hq : qOp P ops S i (wpQuiet P ops S K (pick ops is)) a := by unfold qOp; simp only [hi]; exact h
    obtain ⟨v, hy, hn⟩ := yieldsIf_of_qOp hi hk hq
    exact takeP hi (Region.noSelect_spec hs) (fun c a w => hQ c a _ _ w) (hok listed i ho).1 (g + is.length) listed a w inv (hok listed i ho).2 (Region.free_spec hi hf) hr' hy hS
      (takeL hs hQ hok hS is _ _ hB' (inv.set hr') hn hK)

/-- The calls: whatever order is picked, none of the tail may come up ahead of them. -/
def wpAnyT (P : Program) (md : Region.Mode) (ops : Array Oper) (C : World → Prop) (isHead : Nat → Bool) (L : Array Bool → Act → Prop) : Nat → Array Bool → Act → Prop
  | 0, listed, a => L listed a
  | f + 1, listed, a =>
    Region.ready md ops listed ≠ [] ∧ ∀ i ∈ Region.ready md ops listed, isHead i = true ∧ qOp P ops C i (wpAnyT P md ops C isHead L f (listed.setIfInBounds i true)) a

theorem wpAnyP_of_T {pre isHead : Nat → Bool} {g : Nat} {L : Array Bool → Act → Prop} (hL : ∀ listed a w, C w → L listed a → wpAnyP P md ops Q pre C g listed a w) :
    ∀ (f : Nat) (listed : Array Bool) (a : Act) (w : World), C w → wpAnyT P md ops C isHead L f listed a → wpAnyP P md ops Q pre C (f + g) listed a w
  | 0, listed, a, w, hw, h => by rw [Nat.zero_add]; exact hL _ _ _ hw h
  | f + 1, listed, a, w, hw, h => by
    rw [show f + 1 + g = (f + g) + 1 by omega]
    exact ⟨fun h0 => absurd h0 h.1, fun i hi => wpOp_of_qOp hw (fun a' w' hw' h' => ⟨fun _ => hw', wpAnyP_of_T hL f _ a' w' hw' h'⟩) (h.2 i hi).2⟩

theorem wpAnyT_first {isHead : Nat → Bool} {F i : Nat} {oi : Oper} {v : Value} {L : Array Bool → Act → Prop} (hi : ops[i]? = some oi) (hsel : ∀ (j : Nat) (o : Oper) cs b, ops[j]? = some o → o.op ≠ .select cs b)
    (hdone : ∀ listed a, L listed a → ∀ j ∈ Region.ready md ops listed, isHead j = false) :
    ∀ (f : Nat) (listed : Array Bool) (a : Act), Inv md ops listed → (∀ j, j < ops.size → isHead j = false → listed.getD j true = false → waitsT md ops F j i = true) →
      (∀ j oj, ops[j]? = some oj → j ≠ i → listed.getD j true = false → (∀ e ∈ oj.after, Region.binds md e = true → e.on ≠ i) → oi.apart ops oj = true) →
      i ∈ Region.ready md ops listed → YieldsIn P ops C oi v a →
      wpAnyT P md ops C isHead L f (listed.setIfInBounds i true) (a.put oi.dst v) → wpAnyT P md ops C isHead L (f + 1) listed a := by
  intro f
  induction f with
  | zero =>
    intro listed a inv hG _ hr hy H
    have hun := getD_both (mem_ready.1 hr).1
    refine ⟨fun h => (by rw [h] at hr; cases hr), fun j hj => ?_⟩
    have hjh : isHead j = true := by
      cases hh : isHead j with
      | true => rfl
      | false =>
        obtain ⟨hjun, oj, hoj, _⟩ := mem_ready.1 hj
        exact absurd hj (waitsT_not inv hun F j (hG j (Array.getElem?_eq_some_iff.1 hoj).1 hh hjun)).2
    refine ⟨hjh, ?_⟩
    by_cases hji : j = i
    · subst hji; exact hy.qOp hi H
    · have := hdone _ _ H j (ready_mono hj hji)
      rw [hjh] at this
      cases this
  | succ f ih =>
    intro listed a inv hG hfree hr hy H
    have hun := getD_both (mem_ready.1 hr).1
    refine ⟨fun h => (by rw [h] at hr; cases hr), fun j hj => ?_⟩
    have hjh : isHead j = true := by
      cases hh : isHead j with
      | true => rfl
      | false =>
        obtain ⟨hjun, oj, hoj, _⟩ := mem_ready.1 hj
        exact absurd hj (waitsT_not inv hun F j (hG j (Array.getElem?_eq_some_iff.1 hoj).1 hh hjun)).2
    refine ⟨hjh, ?_⟩
    by_cases hji : j = i
    · subst hji; exact hy.qOp hi H
    · have h1 := (H.2 j (ready_mono hj hji)).2
      obtain ⟨hjun, oj, hoj, hall⟩ := mem_ready.1 hj
      have hnot : ∀ e ∈ oj.after, Region.binds md e = true → e.on ≠ i := fun e he hb heq => by
        have h1 := hall e he hb
        rw [heq, hun] at h1
        cases h1
      have h2 := qOp_put hoj (hfree j oj hoj hji hjun hnot) (fun cs b => hsel i oi cs b hi) (fun cs b => hsel j oj cs b hoj) hy h1
      have hfree' : ∀ k ok, ops[k]? = some ok → k ≠ i → (listed.setIfInBounds j true).getD k true = false →
          (∀ e ∈ ok.after, Region.binds md e = true → e.on ≠ i) → oi.apart ops ok = true := fun k ok hk hki hun hno => by
        refine hfree k ok hk hki ?_ hno
        by_cases hjk : j = k
        · subst hjk; exact hjun
        · rw [getD_set_ne true hjk] at hun; exact hun
      have hG' : ∀ k, k < ops.size → isHead k = false → (listed.setIfInBounds j true).getD k true = false → waitsT md ops F k i = true := fun k hk hh hun => by
        refine hG k hk hh ?_
        by_cases hjk : j = k
        · subst hjk; exact hjun
        · rw [getD_set_ne true hjk] at hun; exact hun
      refine qOp_mono (fun a' h3 => ih (listed.setIfInBounds j true) a' (inv.set hj) hG' hfree' (ready_mono hr (Ne.symm hji)) h3.1 ?_) h2
      rw [Array.setIfInBounds_comm _ _ hji]
      exact h3.2

def headB (md : Region.Mode) (ops : Array Oper) : List Nat → Array Bool → Bool
  | [], _ => true
  | i :: is, listed => (Region.ready md ops listed).contains i && Region.free md ops listed i && headB md ops is (listed.setIfInBounds i true)

theorem wpAnyT_lex {hs : List Nat} {F : Nat} {Lq : Act → Prop} {done : Array Bool → Bool} (hsel : Region.noSelect ops = true) (hdone : ∀ listed, done listed = true → ∀ j ∈ Region.ready md ops listed, hs.contains j = false) :
    ∀ (is : List Nat) (listed : Array Bool) (a : Act), (∀ i ∈ is, i ∈ hs) → headB md ops is listed = true → Inv md ops listed → (∀ i ∈ hs, ∀ j, j < ops.size → hs.contains j = false → listed.getD j true = false → waitsT md ops F j i = true) → done (after listed is) = true → wpQuiet P ops C Lq (pick ops is) a →
    wpAnyT P md ops C (fun j => hs.contains j) (fun listed' a' => done listed' = true ∧ listed' = after listed is ∧ Inv md ops listed' ∧ Lq a') is.length listed a
  | [], listed, a, _, _, inv, _, hd, h => ⟨hd, rfl, inv, h⟩
  | i :: is, listed, a, hsub, hB, inv, hG, hd, h => by
    simp only [headB, Bool.and_eq_true] at hB
    obtain ⟨⟨hr, hf⟩, hB'⟩ := hB
    have hr' : i ∈ Region.ready md ops listed := by simpa using hr
    obtain ⟨_, o, hi, _⟩ := mem_ready.1 hr'
    rw [pick_cons hi] at h
    have hq : qOp P ops C i (wpQuiet P ops C Lq (pick ops is)) a := by unfold qOp; simp only [hi]; exact h
    obtain ⟨v, hy, hn⟩ := yieldsIn_of_qOp hi hq
    have hin : i ∈ hs := hsub i (by simp)
    exact wpAnyT_first hi (Region.noSelect_spec hsel) (fun listed' a' hL => hdone listed' hL.1) is.length listed a inv (hG i hin) (Region.free_spec hi hf) hr' hy
      (wpAnyT_lex hsel hdone is _ _ (fun k hk => hsub k (by simp [hk])) hB' (inv.set hr') (fun i' hi' k hk hh hun => hG i' hi' k hk hh (by
        by_cases hjk : i = k
        · subst hjk; exact (mem_ready.1 hr').1
        · rw [getD_set_ne true hjk] at hun; exact hun)) hd hn)

/-- Operations that lay a new block and do nothing else. -/
def allocKind : Op → Bool
  | .buildSlice .. => true
  | .box .. => true
  | .alloc .. => true
  | _ => false

def seqL (md : Region.Mode) (ops : Array Oper) (pre : Nat → Bool) : List Nat → Array Bool → Bool
  | [], listed => (Region.ready md ops listed).isEmpty
  | t :: ts, listed => decide (Region.ready md ops listed = [t]) && (!pre t || (match ops[t]? with | some o => allocKind o.op | none => false)) && (pre t || !(ts.any pre)) && seqL md ops pre ts (listed.setIfInBounds t true)

def Keeps {α : Type} (P : Program) (s : Sem α) : Prop := ∀ w x w', s.run P w = .ok x w' → w' = w
def Lays {α : Type} (P : Program) (s : Sem α) : Prop := ∀ w x w', s.run P w = .ok x w' → ∃ ob, w' = w.alloc ob

theorem run_bind_ok {α β : Type} {s : Sem α} {f : α → Sem β} {w w' : World} {y : β} (h : (s >>= f).run P w = .ok y w') : ∃ x w1, s.run P w = .ok x w1 ∧ (f x).run P w1 = .ok y w' := by
  have e : (s >>= f).run P w = (s.run P w).andThen (fun x w => (f x).run P w) := by simp [go_sem]
  rw [e] at h
  cases hs : s.run P w with
  | ok x w1 => rw [hs] at h; exact ⟨x, w1, rfl, h⟩
  | halt x w1 => rw [hs] at h; simp [Result.andThen] at h

theorem keeps_pure {α : Type} (x : α) : Keeps P (pure x : Sem α) := fun w y w' h => by
  simp [go_sem] at h
  exact h.2.symm
theorem keeps_bind {α β : Type} {s : Sem α} {f : α → Sem β} (hs : Keeps P s) (hf : ∀ x, Keeps P (f x)) : Keeps P (s >>= f) := fun w y w' h => by
  obtain ⟨x, w1, h1, h2⟩ := run_bind_ok h
  rw [hf x _ _ _ h2, hs _ _ _ h1]
theorem lays_bind {α β : Type} {s : Sem α} {f : α → Sem β} (hs : Keeps P s) (hf : ∀ x, Lays P (f x)) : Lays P (s >>= f) := fun w y w' h => by
  obtain ⟨x, w1, h1, h2⟩ := run_bind_ok h
  obtain rfl := hs _ _ _ h1
  exact hf x _ _ _ h2
theorem lays_then {α β : Type} {s : Sem α} {f : α → Sem β} (hs : Lays P s) (hf : ∀ x, Keeps P (f x)) : Lays P (s >>= f) := fun w y w' h => by
  obtain ⟨x, w1, h1, h2⟩ := run_bind_ok h
  rw [hf x _ _ _ h2]
  exact hs _ _ _ h1
theorem keeps_halt {α : Type} {s : Sem α} (h : ∀ w x w', s.run P w ≠ .ok x w') : Keeps P s := fun w x w' hr => absurd hr (h w x w')
theorem lays_halt {α : Type} {s : Sem α} (h : ∀ w x w', s.run P w ≠ .ok x w') : Lays P s := fun w x w' hr => absurd hr (h w x w')
theorem lays_newObj (o : Obj) : Lays P (newObj o) := fun w x w' h => by
  simp [go_sem] at h
  exact ⟨o, h.2.symm⟩
theorem lays_newRow (e : TypeId) (cs : Array Value) : Lays P (newRow e cs) := by
  unfold newRow
  exact lays_then (lays_newObj _) fun _ => keeps_pure _
theorem keeps_info (t : TypeId) : Keeps P (typeInfo t) := fun w x w' h => by
  cases hi : P.info? t with
  | none => simp [typeInfo, go_sem, hi] at h
  | some i => simp [typeInfo, go_sem, hi] at h; exact h.2.symm
theorem keeps_underlying (t : TypeId) : Keeps P (underlying t) := fun w x w' h => by
  cases hi : P.underlying t with
  | none => simp [underlying, go_sem, hi] at h
  | some i => simp [underlying, go_sem, hi] at h; exact h.2.symm
theorem keeps_zero (t : TypeId) : Keeps P (zeroValue t) := by
  unfold zeroValue
  refine keeps_bind (keeps_info t) fun x => ?_
  split
  · exact keeps_pure _
  · exact keeps_halt fun w x w' => by simp [go_sem]
theorem keeps_size (t : TypeId) : Keeps P (sizeOf t) := by
  unfold sizeOf
  exact keeps_bind (keeps_info t) fun x => keeps_pure _

theorem lays_alloc (e : TypeId) : Lays P (Instr.alloc e true (.tuple #[])) := by
  unfold Instr.alloc
  refine lays_bind (keeps_zero e) fun z => ?_
  exact lays_then (lays_newRow _ _) fun _ => keeps_pure _
theorem lays_box (e : TypeId) (v : Value) : Lays P (Instr.box e v) := by
  unfold Instr.box
  exact lays_then (lays_newRow _ _) fun _ => keeps_pure _
theorem lays_buildSlice (t : TypeId) (len : Nat) (parts : Array (Nat × Value)) : Lays P (Instr.buildSlice t len parts) := by
  unfold Instr.buildSlice
  refine lays_bind (keeps_underlying t) fun a => ?_
  split
  · rename_i elem
    refine lays_bind (keeps_size elem) fun size => ?_
    by_cases h1 : len * size > 2 ^ 24
    · rw [if_pos h1]
      exact lays_halt fun w x w' => by simp [go_sem]
    · rw [if_neg h1]
      by_cases h2 : len * size = 0
      · simp only [h2, ↓reduceIte]
        refine lays_bind (keeps_pure _) fun z => ?_
        split
        · exact lays_then (lays_newRow _ _) fun _ => keeps_pure _
        · exact lays_halt fun w x w' => by simp [go_sem]
      · simp only [h2, ↓reduceIte]
        refine lays_bind (keeps_zero elem) fun z => lays_bind (keeps_pure _) fun z => ?_
        split
        · exact lays_then (lays_newRow _ _) fun _ => keeps_pure _
        · exact lays_halt fun w x w' => by simp [go_sem]
  · exact lays_halt fun w x w' => by simp [go_sem]

theorem lays_value {s : Sem Value} (hs : Lays P s) {w w' : World} {n : Next} (h : (do pure (Next.value (← s)) : Sem Next).run P w = .ok n w') : (∃ u, n = .value u) ∧ ∃ ob, w' = w.alloc ob :=
  ⟨value_of h, lays_then hs (fun x => keeps_pure (Next.value x)) w n w' h⟩

theorem allocKind_run {o : Oper} {ρ : Operand → Value} {w w' : World} {n : Next} (hk : allocKind o.op = true) (h : (execOp ρ o).run P w = .ok n w') : (∃ u, n = .value u) ∧ ∃ ob, w' = w.alloc ob := by
  unfold execOp at h
  cases ho : o.op <;> rw [ho] at hk h <;> first
    | (cases hk; done)
    | exact lays_value (lays_alloc _) h
    | exact lays_value (lays_box _ _) h
    | exact lays_value (lays_buildSlice _ _ _) h

theorem wpAnyP_of_seq {pre : Nat → Bool} (hCa : ∀ w ob, C w → C (World.alloc w ob)) : ∀ (ts : List Nat) (listed : Array Bool) (a : Act) (w : World), seqL md ops pre ts listed = true → (ts.any pre = true → C w) → wpList P ops Q (pick ops ts) a w → wpAnyP P md ops Q pre C ts.length listed a w
  | [], listed, a, w, hB, _, h => ⟨by simpa [seqL] using hB, h⟩
  | t :: ts, listed, a, w, hB, hC, h => by
    simp only [seqL, Bool.and_eq_true, decide_eq_true_eq, Bool.or_eq_true, Bool.not_eq_true'] at hB
    obtain ⟨⟨⟨hr, hk⟩, hp⟩, hB'⟩ := hB
    have hrt : t ∈ Region.ready md ops listed := by rw [hr]; simp
    obtain ⟨_, o, ho, _⟩ := mem_ready.1 hrt
    rw [pick_cons ho] at h
    refine ⟨fun h0 => (by rw [hr] at h0; cases h0), fun i hi => ?_⟩
    rw [hr] at hi
    have hit : i = t := by simpa using hi
    subst hit
    have hw : wpOp P ops Q i (wpList P ops Q (pick ops ts)) a w := by unfold wpOp; simp only [ho]; exact h
    cases hpre : pre i with
    | false =>
      have hno : ts.any pre = false := by
        rcases hp with hp | hp
        · rw [hpre] at hp; cases hp
        · exact hp
      exact wpOp_mono (fun a' w' h' => ⟨fun e => (by cases e), wpAnyP_of_seq hCa ts _ a' w' hB' (fun e => (by rw [hno] at e; cases e)) h'⟩) hw
    | true =>
      have hCw : C w := hC (by simp [hpre])
      have hko : allocKind o.op = true := by
        rcases hk with hk | hk
        · rw [hpre] at hk; cases hk
        · rw [ho] at hk; exact hk
      unfold wpOp at hw ⊢
      simp only [ho] at hw ⊢
      split
      · rename_i hwant
        simp only [hwant, if_true] at hw
        rcases hw with hw | hw
        · left
          unfold Oper.wp at hw ⊢
          cases hrun : (execOp a.eval o).run P w with
          | halt x w' => rw [hrun] at hw; cases x <;> simp only [Oper.upon] at hw ⊢ <;> exact hw
          | ok n w' =>
            obtain ⟨⟨u, rfl⟩, ob, rfl⟩ := allocKind_run hko hrun
            rw [hrun] at hw
            simp only [Oper.upon] at hw ⊢
            exact ⟨fun _ => hCa _ _ hCw, wpAnyP_of_seq hCa ts _ _ _ hB' (fun _ => hCa _ _ hCw) hw⟩
        · exact .inr hw
      · rename_i hwant
        simp only [hwant] at hw
        exact ⟨fun _ => hCw, wpAnyP_of_seq hCa ts _ _ _ hB' (fun _ => hCw) hw⟩

/-- Which operations keep the class: all but those taken in whatever world, and those of 'ends'. -/
def preOf (ps0 ends : List Nat) (j : Nat) : Bool := !ps0.contains j && !ends.contains j

def ok0 (ps0 ends : List Nat) (i : Nat) : Bool := !preOf ps0 ends i
def ok1 (md : Region.Mode) (ops : Array Oper) (ps0 ends : List Nat) (listed : Array Bool) (i : Nat) : Bool := (List.range ops.size).all fun j => j == i || preOf ps0 ends j || listed.getD j true || waitsT md ops ops.size j i

def normB (md : Region.Mode) (ops : Array Oper) (ps0 ps hs ts ends : List Nat) : Bool :=
  Region.noSelect ops && takeB md ops (fun _ => ok0 ps0 ends) ps0 (Array.replicate ops.size false) && takeB md ops (ok1 md ops ps0 ends) ps (after (Array.replicate ops.size false) ps0) &&
    headB md ops hs (after (after (Array.replicate ops.size false) ps0) ps) && seqL md ops (preOf ps0 ends) ts (after (after (after (Array.replicate ops.size false) ps0) ps) hs) &&
    decide (ts.length + hs.length + ps.length + ps0.length = ops.size) && ((Region.ready md ops (after (after (after (Array.replicate ops.size false) ps0) ps) hs)).all fun j => !hs.contains j) &&
    (hs.all fun i => (List.range ops.size).all fun j => hs.contains j || (after (after (Array.replicate ops.size false) ps0) ps).getD j true || waitsT md ops ops.size j i)

/-- The walk of a region, once: 'ps0' in whatever world, 'ps' in every world of the class, 'hs' the calls that stay in the class, 'ts' the rest. -/
theorem wp_region_norm {id : Nat} {a : Act} {w : World} {l : List Oper} (ps0 ps hs ts ends : List Nat) (hm : P.follows .mixedOrders = true) (hB : normB .any l.toArray ps0 ps hs ts ends = true) (hC : C { w with drawn := w.drawn + 1 }) (hCa : ∀ w ob, C w → C (World.alloc w ob))
    (hQ : ∀ c a d v w, Q (.panic c) (Act.put a d v) w → Q (.panic c) a w)
    (h : wpQuiet P l.toArray (fun _ => True) (fun a0 => wpQuiet P l.toArray C (fun a1 => wpQuiet P l.toArray C (fun a' => ∀ w', C w' → wpList P l.toArray Q (pick l.toArray ts) a' w') (pick l.toArray hs) a1) (pick l.toArray ps) a0) (pick l.toArray ps0) a) : (Code.region id l.toArray true).wp P Q a w := by
  simp only [normB, Bool.and_eq_true, decide_eq_true_eq] at hB
  obtain ⟨⟨⟨⟨⟨⟨⟨hsel, hp0⟩, hp⟩, hh⟩, hts⟩, hlen⟩, hr⟩, hblock⟩ := hB
  have inv0 : Inv .any l.toArray (Array.replicate l.toArray.size false) :=
    ⟨by simp, fun j oj _ hl => (by rw [getD_replicate_false] at hl; cases hl)⟩
  refine wp_region_any hm (wpAny_of_P (pre := preOf ps0 ends) (C := C) _ _ _ _ ?_)
  suffices hk : wpAnyP P .any l.toArray Q (preOf ps0 ends) C (ts.length + hs.length + ps.length + ps0.length) (Array.replicate l.toArray.size false) a { w with drawn := w.drawn + 1 } by rwa [hlen] at hk
  refine takeL (S := fun _ => True) (F := l.toArray.size) hsel hQ (fun _ i hi => ⟨fun w _ e => ?_, fun j _ _ _ => .inl fun _ _ => trivial⟩) trivial ps0 _ a hp0 inv0 h (fun a0 h0 inv1 => ?_)
  · unfold ok0 at hi
    rw [e] at hi
    cases hi
  refine takeL (S := C) (F := l.toArray.size) hsel hQ (fun listed i hi => ⟨fun w hw _ => hw, fun j hj hji hun => ?_⟩) hC ps _ a0 hp inv1 h0 (fun a1 h1 inv2 => ?_)
  · unfold ok1 at hi
    have := List.all_eq_true.1 hi j (List.mem_range.2 hj)
    simp only [Bool.or_eq_true, beq_iff_eq, hji, false_or, hun, Bool.false_eq_true, or_false] at this
    rcases this with h | h
    · exact .inl fun w hw => hw h
    · exact .inr h
  have hsum : ts.length + hs.length = hs.length + ts.length := Nat.add_comm _ _
  rw [hsum]
  refine wpAnyP_of_T (isHead := fun j => hs.contains j) (L := fun listed' a' => (decide (listed' = after (after (after (Array.replicate l.toArray.size false) ps0) ps) hs) = true) ∧ listed' = after (after (after (Array.replicate l.toArray.size false) ps0) ps) hs ∧ Inv .any l.toArray listed' ∧ ∀ w', C w' → wpList P l.toArray Q (pick l.toArray ts) a' w') (fun listed a' w' hw' hL => ?_) _ _ _ _ hC ?_
  · obtain ⟨_, rfl, inv3, hq⟩ := hL
    exact wpAnyP_of_seq hCa ts _ a' w' hts (fun _ => hw') (hq w' hw')
  · refine wpAnyT_lex (hs := hs) (F := l.toArray.size) (done := fun listed' => decide (listed' = after (after (after (Array.replicate l.toArray.size false) ps0) ps) hs)) hsel (fun listed hd j hj => ?_) hs _ a1 (fun _ h => h) hh inv2 (fun i hi j hj hjh hun => ?_) (by simp) h1
    · have hd := of_decide_eq_true hd
      rw [hd] at hj
      have := List.all_eq_true.1 hr j hj
      simpa using this
    · have h2 := List.all_eq_true.1 (List.all_eq_true.1 hblock i hi) j (List.mem_range.2 hj)
      simp only [Bool.or_eq_true, hjh, hun, Bool.false_eq_true, false_or] at h2
      exact h2

theorem wpQuiet_imp {Q Q' : Act → Prop} (h : ∀ a, Q a → Q' a) : ∀ (l : List Oper) (a : Act), wpQuiet P ops C Q l a → wpQuiet P ops C Q' l a
  | [], a, hh => h a hh
  | o :: rest, a, hh => by
    unfold wpQuiet at hh ⊢
    split
    · rename_i hw; rw [if_pos hw] at hh; exact Oper.quiet_mono (fun a' => wpQuiet_imp h rest a') hh
    · rename_i hw; rw [if_neg hw] at hh; exact wpQuiet_imp h rest _ hh

/-- 'What was there stands; blocks may have come.' -/
abbrev Regr (w : World) : World → Prop := fun w' => ∃ p : Regrown, w' = Sort.grow (redrawn w p.d) p.os

theorem regr_alloc {w w' : World} (ob : Obj) (h : Regr w w') : Regr w (w'.alloc ob) := by
  obtain ⟨p, rfl⟩ := h
  exact regrown_of_below ((below_regrown w p.d p.os).alloc (below_regrown w p.d p.os).size _)

theorem wp_region_norm_below {id : Nat} {a : Act} {w : World} {l : List Oper} (ps0 ps hs ts ends : List Nat) (hm : P.follows .mixedOrders = true) (hB : normB .any l.toArray ps0 ps hs ts ends = true)
    (hQ : ∀ c a d v w, Q (.panic c) (Act.put a d v) w → Q (.panic c) a w)
    (h : wpQuiet P l.toArray (fun _ => True) (fun a0 => wpQuiet P l.toArray (Regr w) (fun a1 => wpQuiet P l.toArray (Regr w) (fun a' => ∀ w', Below w.heap.size w w' → wpList P l.toArray Q (pick l.toArray ts) a' w') (pick l.toArray hs) a1) (pick l.toArray ps) a0) (pick l.toArray ps0) a) : (Code.region id l.toArray true).wp P Q a w := by
  refine wp_region_norm (C := Regr w) ps0 ps hs ts ends hm hB ⟨⟨w.drawn + 1, #[]⟩, by rw [Sort.grow_empty]; rfl⟩ (fun w' ob hw' => regr_alloc ob hw') hQ ?_
  refine wpQuiet_imp (fun a0 h0 => wpQuiet_imp (fun a1 h1 => wpQuiet_imp (fun a' h' w' hw' => ?_) _ _ h1) _ _ h0) _ _ h
  obtain ⟨p, rfl⟩ := hw'
  exact h' _ (below_regrown w p.d p.os)

theorem regr_cell {w : World} {a : Addr} {v : Value} (h : w.cell? a = some v) : ∀ (d : Nat) (os : Array Obj), (Sort.grow (redrawn w d) os).cell? a = some v := fun d os => cell_regrown h d os

end
end Go.Proofs.Rg
