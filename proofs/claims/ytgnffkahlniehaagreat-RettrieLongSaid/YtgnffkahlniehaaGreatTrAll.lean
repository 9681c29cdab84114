/- Plain: compressed tries over an ordered kind of levels, what they hold, and the list of it in order. No program in sight. -/
namespace Go.Proofs.Tri

/-- A strict order, total. -/
structure Lin {β : Type} (lt : β → β → Bool) : Prop where
  irr : ∀ a, lt a a = false
  trans : ∀ a b c, lt a b = true → lt b c = true → lt a c = true
  tri : ∀ a b, lt a b = false → lt b a = false → a = b

def lex {β : Type} [DecidableEq β] (lt : β → β → Bool) : List β → List β → Bool
  | _, [] => false
  | [], _ :: _ => true
  | a :: as, b :: bs => if a = b then lex lt as bs else lt a b

section
variable {β : Type} [DecidableEq β] {lt : β → β → Bool}

omit [DecidableEq β] in
theorem Lin.ne (L : Lin lt) {a b : β} (h : lt a b = true) : a ≠ b := fun e => by rw [e, L.irr] at h; exact absurd h (by simp)
omit [DecidableEq β] in
theorem Lin.anti (L : Lin lt) {a b : β} (h : lt a b = true) : lt b a = false := by
  cases h' : lt b a with
  | false => rfl
  | true => have := L.trans _ _ _ h h'; rw [L.irr] at this; exact absurd this (by simp)

theorem lex_cons (a b : β) (as bs : List β) : lex lt (a :: as) (b :: bs) = if a = b then lex lt as bs else lt a b := by rw [lex]
theorem lex_nil_r (a : List β) : lex lt a [] = false := by cases a <;> rfl
theorem lex_nil_l (b : β) (bs : List β) : lex lt [] (b :: bs) = true := rfl
theorem lex_head {a b : β} (h : lt a b = true) (L : Lin lt) (as bs : List β) : lex lt (a :: as) (b :: bs) = true := by
  rw [lex_cons, if_neg (L.ne h)]; exact h

theorem lex_app (c a b : List β) : lex lt (c ++ a) (c ++ b) = lex lt a b := by
  induction c with
  | nil => rfl
  | cons x c ih => rw [List.cons_append, List.cons_append, lex_cons, if_pos rfl, ih]

theorem lexLin (L : Lin lt) : Lin (lex lt) where
  irr := fun a => by
    induction a with
    | nil => rfl
    | cons x a ih => rw [lex_cons, if_pos rfl]; exact ih
  trans := fun a => by
    induction a with
    | nil => intro b c h1 h2; cases c with
      | nil => rw [lex_nil_r] at h2; exact absurd h2 (by simp)
      | cons => rfl
    | cons x a ih =>
      intro b c h1 h2
      cases b with
      | nil => rw [lex_nil_r] at h1; exact absurd h1 (by simp)
      | cons y b =>
        cases c with
        | nil => rw [lex_nil_r] at h2; exact absurd h2 (by simp)
        | cons z c =>
          rw [lex_cons] at h1 h2 ⊢
          by_cases e1 : x = y
          · subst e1
            by_cases e2 : x = z
            · subst e2; simp at h1 h2 ⊢; exact ih _ _ h1 h2
            · simp [e2] at h1 h2 ⊢; exact h2
          · rw [if_neg e1] at h1
            by_cases e2 : y = z
            · subst e2; rw [if_neg e1]; exact h1
            · rw [if_neg e2] at h2
              have := L.trans _ _ _ h1 h2
              rw [if_neg (L.ne this)]; exact this
  tri := fun a => by
    induction a with
    | nil => intro b h1 h2; cases b with
      | nil => rfl
      | cons => simp [lex] at h1
    | cons x a ih =>
      intro b h1 h2
      cases b with
      | nil => simp [lex] at h2
      | cons y b =>
        rw [lex_cons] at h1 h2
        by_cases e : x = y
        · subst e; simp at h1 h2; rw [ih _ h1 h2]
        · rw [if_neg e] at h1; rw [if_neg (Ne.symm e)] at h2; exact absurd (L.tri _ _ h1 h2) e
end

/-! ### Lists in order -/
section
variable {κ α : Type} [DecidableEq κ] {lt : κ → κ → Bool}

def Sorted (lt : κ → κ → Bool) (l : List (κ × α)) : Prop := l.Pairwise (fun a b => lt a.1 b.1 = true)

def ins (lt : κ → κ → Bool) (p : κ) (a : α) : List (κ × α) → List (κ × α)
  | [] => [(p, a)]
  | e :: r => if e.1 = p then (p, a) :: r else if lt p e.1 then (p, a) :: e :: r else e :: ins lt p a r

def era (p : κ) (l : List (κ × α)) : List (κ × α) := l.filter (fun e => decide (e.1 ≠ p))

def get (p : κ) : List (κ × α) → Option α
  | [] => none
  | e :: r => if e.1 = p then some e.2 else get p r

theorem get_app (p : κ) (l r : List (κ × α)) : get p (l ++ r) = (get p l).or (get p r) := by
  induction l with
  | nil => simp [get]
  | cons e l ih => rw [List.cons_append, get, get]; split <;> simp [ih]

theorem get_none {p : κ} {l : List (κ × α)} : get p l = none ↔ ∀ e ∈ l, e.1 ≠ p := by
  induction l with
  | nil => simp [get]
  | cons e l ih => rw [get]; split <;> simp_all

theorem get_mem {p : κ} {a : α} {l : List (κ × α)} (h : get p l = some a) : (p, a) ∈ l := by
  induction l with
  | nil => simp [get] at h
  | cons e l ih =>
    rw [get] at h
    split at h
    · rename_i he; injection h with h; subst h; subst he; simp
    · exact List.mem_cons_of_mem _ (ih h)

theorem get_of_mem (L : Lin lt) {p : κ} {a : α} {l : List (κ × α)} (hs : Sorted lt l) (h : (p, a) ∈ l) : get p l = some a := by
  induction l with
  | nil => simp at h
  | cons e l ih =>
    obtain ⟨h1, h2⟩ := List.pairwise_cons.1 hs
    rw [get]
    rcases List.mem_cons.1 h with rfl | h
    · simp
    · rw [if_neg (L.ne (h1 _ h))]; exact ih h2 h

theorem ins_right (L : Lin lt) {p : κ} {a : α} {pre : List (κ × α)} (l : List (κ × α)) (h : ∀ e ∈ pre, lt e.1 p = true) : ins lt p a (pre ++ l) = pre ++ ins lt p a l := by
  induction pre with
  | nil => rfl
  | cons e pre ih =>
    have he := h e (by simp)
    rw [List.cons_append, ins, if_neg (L.ne he), L.anti he, ih (fun x hx => h x (List.mem_cons_of_mem _ hx))]
    rfl

theorem ins_left {p : κ} {a : α} (l : List (κ × α)) {post : List (κ × α)} (L : Lin lt) (h : ∀ e ∈ post, lt p e.1 = true) : ins lt p a (l ++ post) = ins lt p a l ++ post := by
  induction l with
  | nil =>
    cases post with
    | nil => rfl
    | cons e post =>
      have he := h e (by simp)
      simp [ins, Ne.symm (L.ne he), he]
  | cons e l ih =>
    rw [List.cons_append, ins, ins]
    split
    · rfl
    · split
      · rfl
      · rw [ih]; rfl

theorem era_none {p : κ} {l : List (κ × α)} (h : ∀ e ∈ l, e.1 ≠ p) : era p l = l := by
  unfold era; rw [List.filter_eq_self]; intro e he; simpa using h e he

theorem era_app (p : κ) (l r : List (κ × α)) : era p (l ++ r) = era p l ++ era p r := List.filter_append ..

theorem ins_mem {p : κ} {a : α} {l : List (κ × α)} {e : κ × α} (h : e ∈ ins lt p a l) : e = (p, a) ∨ e ∈ l := by
  induction l with
  | nil => simp [ins] at h; exact .inl h
  | cons x l ih =>
    rw [ins] at h
    split at h
    · rcases List.mem_cons.1 h with h | h
      · exact .inl h
      · exact .inr (List.mem_cons_of_mem _ h)
    · split at h
      · rcases List.mem_cons.1 h with h | h
        · exact .inl h
        · exact .inr h
      · rcases List.mem_cons.1 h with h | h
        · exact .inr (by simp [h])
        · rcases ih h with h | h
          · exact .inl h
          · exact .inr (List.mem_cons_of_mem _ h)

theorem ins_sorted (L : Lin lt) {p : κ} {a : α} {l : List (κ × α)} (hs : Sorted lt l) : Sorted lt (ins lt p a l) := by
  induction l with
  | nil => simp [ins, Sorted]
  | cons x l ih =>
    obtain ⟨h1, h2⟩ := List.pairwise_cons.1 hs
    rw [ins]
    split
    · rename_i e
      exact List.pairwise_cons.2 ⟨fun y hy => by have := h1 y hy; rw [e] at this; exact this, h2⟩
    · rename_i e
      split
      · rename_i hl
        exact List.pairwise_cons.2 ⟨fun y hy => by
          rcases List.mem_cons.1 hy with rfl | hy
          · exact hl
          · exact L.trans _ _ _ hl (h1 y hy), hs⟩
      · rename_i hl
        have hx : lt x.1 p = true := by
          cases h : lt x.1 p with
          | true => rfl
          | false => exact absurd (L.tri _ _ h (by simpa using hl)) e
        exact List.pairwise_cons.2 ⟨fun y hy => by
          rcases ins_mem hy with rfl | hy
          · exact hx
          · exact h1 y hy, ih h2⟩

theorem era_sorted {p : κ} {l : List (κ × α)} (hs : Sorted lt l) : Sorted lt (era p l) := List.Pairwise.filter _ hs

theorem get_ins (L : Lin lt) {p q : κ} {a : α} {l : List (κ × α)} (hs : Sorted lt l) : get q (ins lt p a l) = if q = p then some a else get q l := by
  induction l with
  | nil =>
    by_cases h : q = p
    · subst h; simp [ins, get]
    · have h2 : ¬ p = q := fun e => h e.symm
      simp [ins, get, h, h2]
  | cons x l ih =>
    obtain ⟨h1, h2⟩ := List.pairwise_cons.1 hs
    rw [ins]
    by_cases e : x.1 = p
    · rw [if_pos e, get, get]
      by_cases h : q = p
      · subst h; simp
      · rw [if_neg (fun e => h e.symm), if_neg h, if_neg (fun e' => h (by rw [← e', e]))]
    · rw [if_neg e]
      split
      · rename_i hl
        rw [get]
        by_cases h : q = p
        · subst h; simp
        · rw [if_neg (fun e => h e.symm), if_neg h]
      · rw [get, get, ih h2]
        by_cases h : q = p
        · subst h; rw [if_neg e, if_pos rfl, if_pos rfl]
        · by_cases h' : x.1 = q <;> simp [h, h']

theorem get_era {p q : κ} {l : List (κ × α)} : get q (era p l) = if q = p then none else get q l := by
  induction l with
  | nil => simp [era, get]
  | cons x l ih =>
    unfold era at ih ⊢
    rw [List.filter_cons]
    by_cases e : x.1 = p
    · simp only [e, ne_eq, not_true, decide_false, Bool.false_eq_true, if_false, ih]
      by_cases h : q = p
      · simp [h]
      · rw [if_neg h, if_neg h, get, if_neg (fun e' => h (by rw [← e', e]))]
    · simp only [ne_eq, e, not_false_eq_true, decide_true, if_true]
      rw [get, get, ih]
      by_cases h : q = p
      · subst h; simp [e]
      · simp [h]

/-- Two lists in order that tell the same of every key are one. -/
theorem sorted_ext (L : Lin lt) : ∀ {l r : List (κ × α)}, Sorted lt l → Sorted lt r → (∀ q, get q l = get q r) → l = r
  | [], [], _, _, _ => rfl
  | [], x :: r, _, _, h => by have := h x.1; simp [get] at this
  | x :: l, [], _, _, h => by have := h x.1; simp [get] at this
  | x :: l, y :: r, hl, hr, h => by
    obtain ⟨l1, l2⟩ := List.pairwise_cons.1 hl
    obtain ⟨r1, r2⟩ := List.pairwise_cons.1 hr
    have hxy : x.1 = y.1 := by
      refine L.tri _ _ ?_ ?_
      · cases hc : lt x.1 y.1 with
        | false => rfl
        | true =>
          have := h x.1
          rw [get, if_pos rfl, get, if_neg (Ne.symm (L.ne hc))] at this
          have hm := get_mem this.symm
          have := r1 _ hm
          rw [L.anti hc] at this; exact absurd this (by simp)
      · cases hc : lt y.1 x.1 with
        | false => rfl
        | true =>
          have := h y.1
          rw [get, if_neg (Ne.symm (L.ne hc)), get, if_pos rfl] at this
          have hm := get_mem this
          have := l1 _ hm
          rw [L.anti hc] at this; exact absurd this (by simp)
    have h2 : x.2 = y.2 := by
      have := h x.1
      rw [get, if_pos rfl, get, if_pos hxy.symm] at this
      exact Option.some.inj this
    have hx : x = y := Prod.ext hxy h2
    subst hx
    rw [sorted_ext L l2 r2 (fun q => by
      have := h q
      rw [get, get] at this
      by_cases e : x.1 = q
      · subst e
        have n1 : get x.1 l = none := get_none.2 (fun e he => Ne.symm (L.ne (l1 e he)))
        have n2 : get x.1 r = none := get_none.2 (fun e he => Ne.symm (L.ne (r1 e he)))
        rw [n1, n2]
      · rwa [if_neg e, if_neg e] at this)]
end
end Go.Proofs.Tri

/- Plain: compressed tries: what they hold, in order; a thing laid down, taken out; the node at a path. No program in sight. -/
namespace Go.Proofs.Tri

inductive Tr (β α : Type) where
  | node (lv : List β) (val : Option α) (kids : List (Tr β α))

namespace Tr
variable {β α : Type}
def lv : Tr β α → List β | node l _ _ => l
def val : Tr β α → Option α | node _ v _ => v
def kids : Tr β α → List (Tr β α) | node _ _ k => k
theorem lv_node (l : List β) (v : Option α) (k : List (Tr β α)) : (node l v k).lv = l := rfl
theorem val_node (l : List β) (v : Option α) (k : List (Tr β α)) : (node l v k).val = v := rfl
theorem kids_node (l : List β) (v : Option α) (k : List (Tr β α)) : (node l v k).kids = k := rfl
end Tr
open Tr

section
variable {β α : Type}
theorem Tr.eta (t : Tr β α) : t = .node t.lv t.val t.kids := by cases t; rfl

theorem Tr.ind {P : Tr β α → Prop} (h : ∀ lv v ks, (∀ k ∈ ks, P k) → P (.node lv v ks)) : ∀ t, P t
  | .node lv v ks => h lv v ks (fun k _ => Tr.ind h k)

mutual
def nodes : Tr β α → Nat
  | .node _ _ ks => nodesL ks + 1
def nodesL : List (Tr β α) → Nat
  | [] => 0
  | k :: ks => nodes k + nodesL ks
end

def ownE : Option α → List (List β × α)
  | some a => [([], a)]
  | none => []

def pre (c : List β) (l : List (List β × α)) : List (List β × α) := l.map (fun e => (c ++ e.1, e.2))

mutual
def ents : Tr β α → List (List β × α)
  | .node lv v ks => pre lv (ownE v ++ entsL ks)
def entsL : List (Tr β α) → List (List β × α)
  | [] => []
  | k :: ks => ents k ++ entsL ks
end

/-- What a node holds, told from there on. -/
def body (t : Tr β α) : List (List β × α) := ownE t.val ++ entsL t.kids

theorem ents_body (t : Tr β α) : ents t = pre t.lv (body t) := by cases t; rfl
theorem entsL_nil : entsL ([] : List (Tr β α)) = [] := rfl
theorem entsL_cons (k : Tr β α) (ks : List (Tr β α)) : entsL (k :: ks) = ents k ++ entsL ks := rfl
theorem entsL_app (a b : List (Tr β α)) : entsL (a ++ b) = entsL a ++ entsL b := by
  induction a with
  | nil => rfl
  | cons k a ih => rw [List.cons_append, entsL_cons, entsL_cons, ih, List.append_assoc]
theorem pre_app (c : List β) (a b : List (List β × α)) : pre c (a ++ b) = pre c a ++ pre c b := List.map_append ..
theorem pre_pre (c d : List β) (a : List (List β × α)) : pre c (pre d a) = pre (c ++ d) a := by unfold pre; rw [List.map_map]; congr 1; funext e; simp
theorem pre_nil (a : List (List β × α)) : pre [] a = a := by unfold pre; simp
theorem pre_length (c : List β) (a : List (List β × α)) : (pre c a).length = a.length := by unfold pre; simp

theorem entsL_mem {e : List β × α} {ks : List (Tr β α)} : e ∈ entsL ks ↔ ∃ k ∈ ks, e ∈ ents k := by
  induction ks with
  | nil => simp [entsL_nil]
  | cons k ks ih => rw [entsL_cons, List.mem_append, ih]; simp

theorem ents_mem {e : List β × α} {t : Tr β α} (h : e ∈ ents t) : ∃ r, e.1 = t.lv ++ r ∧ (r, e.2) ∈ body t := by
  rw [ents_body] at h
  obtain ⟨x, hx, rfl⟩ := List.mem_map.1 h
  exact ⟨x.1, rfl, hx⟩
end

section
variable {β α : Type} [DecidableEq β] {lt : β → β → Bool}

/-- One edge begins ahead of another. -/
def hlt (lt : β → β → Bool) (a b : Tr β α) : Prop := ∃ x xs y ys, a.lv = x :: xs ∧ b.lv = y :: ys ∧ lt x y = true

/-- A node below the root, as it may stand. -/
inductive Ok (lt : β → β → Bool) : Tr β α → Prop
  | mk (lv : List β) (v : Option α) (ks : List (Tr β α)) (hv : v.isSome = true ∨ 2 ≤ ks.length) (hs : ks.Pairwise (hlt lt)) (hne : ∀ k ∈ ks, k.lv ≠ []) (hk : ∀ k ∈ ks, Ok lt k) : Ok lt (.node lv v ks)

structure Forest (lt : β → β → Bool) (ks : List (Tr β α)) : Prop where
  sorted : ks.Pairwise (hlt lt)
  ne : ∀ k ∈ ks, k.lv ≠ []
  ok : ∀ k ∈ ks, Ok lt k

omit [DecidableEq β] in
theorem Ok.forest {t : Tr β α} (h : Ok lt t) : Forest lt t.kids := by cases h; exact ⟨by assumption, by assumption, by assumption⟩
omit [DecidableEq β] in
theorem Ok.full {t : Tr β α} (h : Ok lt t) : t.val.isSome = true ∨ 2 ≤ t.kids.length := by cases h; assumption
omit [DecidableEq β] in
theorem Ok.of {t : Tr β α} (h1 : t.val.isSome = true ∨ 2 ≤ t.kids.length) (h2 : Forest lt t.kids) : Ok lt t := by
  cases t; exact .mk _ _ _ h1 h2.sorted h2.ne h2.ok
omit [DecidableEq β] in
theorem Forest.nil : Forest lt ([] : List (Tr β α)) := ⟨.nil, by simp, by simp⟩

omit [DecidableEq β] in
theorem Forest.app {a b : List (Tr β α)} (h : Forest lt (a ++ b)) : Forest lt a ∧ Forest lt b ∧ ∀ x ∈ a, ∀ y ∈ b, hlt lt x y := by
  obtain ⟨h1, h2, h3⟩ := List.pairwise_append.1 h.sorted
  exact ⟨⟨h1, fun k hk => h.ne k (by simp [hk]), fun k hk => h.ok k (by simp [hk])⟩, ⟨h2, fun k hk => h.ne k (by simp [hk]), fun k hk => h.ok k (by simp [hk])⟩, h3⟩

omit [DecidableEq β] in
theorem Forest.mk' {a b : List (Tr β α)} (h1 : Forest lt a) (h2 : Forest lt b) (h3 : ∀ x ∈ a, ∀ y ∈ b, hlt lt x y) : Forest lt (a ++ b) :=
  ⟨List.pairwise_append.2 ⟨h1.sorted, h2.sorted, h3⟩, fun k hk => (List.mem_append.1 hk).elim (h1.ne k) (h2.ne k), fun k hk => (List.mem_append.1 hk).elim (h1.ok k) (h2.ok k)⟩

omit [DecidableEq β] in
theorem Forest.one {k : Tr β α} (h1 : k.lv ≠ []) (h2 : Ok lt k) : Forest lt [k] := ⟨by simp, by simpa using h1, by simpa using h2⟩

omit [DecidableEq β] in
theorem Ok.ents_ne : ∀ {t : Tr β α}, Ok lt t → ents t ≠ [] := by
  intro t
  refine Tr.ind (P := fun t => Ok lt t → ents t ≠ []) (fun lv v ks ih h => ?_) t
  rw [ents_body]
  intro e
  have e : body (.node lv v ks) = [] := by
    have := congrArg List.length e
    rw [pre_length] at this
    exact List.eq_nil_of_length_eq_zero (by simpa using this)
  unfold body at e
  rw [List.append_eq_nil_iff] at e
  rcases h.full with hv | hk
  · obtain ⟨a, ha⟩ := Option.isSome_iff_exists.1 hv
    rw [ha] at e; simp [ownE] at e
  · match ks, ih, h, hk, e with
    | k :: ks, ih, h, _, e =>
      have := e.2
      simp only [Tr.kids, entsL_cons, List.append_eq_nil_iff] at this
      exact ih k (by simp) (h.forest.ok k (by simp [Tr.kids])) this.1

omit [DecidableEq β] in
/-- Paths within an edge's node begin with its first level. -/
theorem ents_head {k : Tr β α} {x : β} {xs : List β} (hk : k.lv = x :: xs) {e : List β × α} (he : e ∈ ents k) : ∃ r, e.1 = x :: r := by
  obtain ⟨r, h1, _⟩ := ents_mem he
  exact ⟨xs ++ r, by rw [h1, hk]; rfl⟩

theorem hlt_ents (L : Lin lt) {a b : Tr β α} (h : hlt lt a b) {e f : List β × α} (he : e ∈ ents a) (hf : f ∈ ents b) : lex lt e.1 f.1 = true := by
  obtain ⟨x, xs, y, ys, ha, hb, hl⟩ := h
  obtain ⟨r, hr⟩ := ents_head ha he
  obtain ⟨s, hs⟩ := ents_head hb hf
  rw [hr, hs]
  exact lex_head hl L _ _

theorem body_sorted (L : Lin lt) : ∀ (t : Tr β α), Forest lt t.kids → Sorted (lex lt) (body t) := by
  intro t
  refine Tr.ind (P := fun t => Forest lt t.kids → Sorted (lex lt) (body t)) (fun lv v ks ih h => ?_) t
  have hk : ∀ ks : List (Tr β α), (∀ k ∈ ks, Forest lt k.kids → Sorted (lex lt) (body k)) → Forest lt ks → Sorted (lex lt) (entsL ks) := by
    intro ks
    induction ks with
    | nil => intro _ _; exact .nil
    | cons k ks ihk =>
      intro hb hf
      obtain ⟨f1, f2, f3⟩ := Forest.app (a := [k]) (b := ks) hf
      refine List.pairwise_append.2 ⟨?_, ihk (fun x hx => hb x (by simp [hx])) f2, fun e he f hf' => ?_⟩
      · rw [ents_body]
        refine List.Pairwise.map _ (fun a b hab => ?_) (hb k (by simp) (f1.ok k (by simp)).forest)
        rw [lex_app]; exact hab
      · obtain ⟨k', hk', he'⟩ := entsL_mem.1 hf'
        exact hlt_ents L (f3 k (by simp) k' hk') he he'
  refine List.pairwise_append.2 ⟨?_, hk ks ih h, fun e he f hf => ?_⟩
  · cases v <;> simp [ownE, Tr.val]
  · obtain ⟨k, hk', hf'⟩ := entsL_mem.1 hf
    cases v with
    | none => simp [ownE, Tr.val] at he
    | some a =>
      simp [ownE, Tr.val] at he
      subst he
      have hne := h.ne k hk'
      cases hlv : k.lv with
      | nil => exact absurd hlv hne
      | cons x xs =>
        obtain ⟨r, hr⟩ := ents_head hlv hf'
        rw [hr]; rfl

/-! ### Where a level stands among the edges -/
def below (lt : β → β → Bool) (p : β) (k : Tr β α) : Bool := match k.lv with | x :: _ => lt x p | [] => true
def place (lt : β → β → Bool) (p : β) (ks : List (Tr β α)) : Nat := ks.countP (below lt p)

omit [DecidableEq β] in
/-- The edges ahead of a level; the one that begins with it; those behind. -/
theorem place_split (L : Lin lt) (p : β) : ∀ {ks : List (Tr β α)}, Forest lt ks →
    (∀ k ∈ ks.take (place lt p ks), ∃ x xs, k.lv = x :: xs ∧ lt x p = true) ∧ (∀ k ∈ ks.drop (place lt p ks), ∃ x xs, k.lv = x :: xs ∧ lt x p = false)
  | [], _ => by simp [place]
  | k :: ks, h => by
    obtain ⟨f1, f2, f3⟩ := Forest.app (a := [k]) (b := ks) h
    have hne := f1.ne k (by simp)
    cases hlv : k.lv with
    | nil => exact absurd hlv hne
    | cons x xs =>
      obtain ⟨i1, i2⟩ := place_split L p f2
      cases hx : lt x p with
      | true =>
        have hp : place lt p (k :: ks) = place lt p ks + 1 := by unfold place; rw [List.countP_cons]; simp [below, hlv, hx]
        rw [hp, List.take_succ_cons, List.drop_succ_cons]
        refine ⟨fun y hy => ?_, i2⟩
        rcases List.mem_cons.1 hy with rfl | hy
        · exact ⟨x, xs, hlv, hx⟩
        · exact i1 y hy
      | false =>
        have all : ∀ y ∈ ks, ∃ z zs, y.lv = z :: zs ∧ lt z p = false := by
          intro y hy
          obtain ⟨a, as, z, zs, ha, hz, hl⟩ := f3 k (by simp) y hy
          rw [hlv] at ha; injection ha with ha _
          refine ⟨z, zs, hz, ?_⟩
          cases hzp : lt z p with
          | false => rfl
          | true => rw [← ha] at hl; have := L.trans _ _ _ hl hzp; rw [hx] at this; exact absurd this (by simp)
        have hp : place lt p (k :: ks) = 0 := by
          unfold place
          rw [List.countP_eq_zero]
          intro y hy
          rcases List.mem_cons.1 hy with rfl | hy
          · simp [below, hlv, hx]
          · obtain ⟨z, zs, hz, hl⟩ := all y hy; simp [below, hz, hl]
        rw [hp]
        refine ⟨by simp, fun y hy => ?_⟩
        rw [List.drop_zero] at hy
        rcases List.mem_cons.1 hy with rfl | hy
        · exact ⟨x, xs, hlv, hx⟩
        · exact all y hy

/-- The edge that begins with a level. -/
def kidAt (lt : β → β → Bool) (p : β) (ks : List (Tr β α)) : Option (Tr β α) :=
  match ks[place lt p ks]? with
  | some k => if k.lv.head? = some p then some k else none
  | none => none

theorem kidAt_some (L : Lin lt) {p : β} {ks : List (Tr β α)} {k : Tr β α} (h : Forest lt ks) (hk : kidAt lt p ks = some k) :
    ∃ a b xs, ks = a ++ k :: b ∧ a.length = place lt p ks ∧ k.lv = p :: xs ∧ (∀ y ∈ a, ∃ x xs, y.lv = x :: xs ∧ lt x p = true) ∧ (∀ y ∈ b, ∃ x xs, y.lv = x :: xs ∧ lt p x = true) := by
  obtain ⟨h1, h2⟩ := place_split L p h
  unfold kidAt at hk
  split at hk
  · rename_i k' hget
    split at hk
    · rename_i hh
      injection hk with hk; subst hk
      obtain ⟨hlt, hg⟩ := List.getElem?_eq_some_iff.1 hget
      have hd : ks.drop (place lt p ks) = k' :: ks.drop (place lt p ks + 1) := by rw [List.drop_eq_getElem_cons hlt, hg]
      have hks : ks = ks.take (place lt p ks) ++ k' :: ks.drop (place lt p ks + 1) := by rw [← hd, List.take_append_drop]
      cases hlv : k'.lv with
      | nil => rw [hlv] at hh; simp at hh
      | cons y ys =>
        rw [hlv] at hh; simp at hh; subst hh
        refine ⟨_, _, ys, hks, by rw [List.length_take]; omega, rfl, h1, fun z hz => ?_⟩
        have hf := h; rw [hks] at hf
        obtain ⟨_, g2, _⟩ := Forest.app hf
        obtain ⟨_, _, g3⟩ := Forest.app (a := [k']) g2
        obtain ⟨a, as, b, bs, ha, hb, hl⟩ := g3 k' (by simp) z hz
        rw [hlv] at ha; injection ha with ha _
        exact ⟨b, bs, hb, by rw [ha]; exact hl⟩
    · exact absurd hk (by simp)
  · exact absurd hk (by simp)

theorem kidAt_none (L : Lin lt) {p : β} {ks : List (Tr β α)} (h : Forest lt ks) (hk : kidAt lt p ks = none) :
    (∀ k ∈ ks.take (place lt p ks), ∃ x xs, k.lv = x :: xs ∧ lt x p = true) ∧ (∀ k ∈ ks.drop (place lt p ks), ∃ x xs, k.lv = x :: xs ∧ lt p x = true) := by
  obtain ⟨h1, h2⟩ := place_split L p h
  refine ⟨h1, fun k hkm => ?_⟩
  obtain ⟨x, xs, hx, hl⟩ := h2 k hkm
  refine ⟨x, xs, hx, ?_⟩
  cases hc : lt p x with
  | true => rfl
  | false =>
    exfalso
    have hxp := L.tri _ _ hl hc
    subst hxp
    unfold kidAt at hk
    -- the first of those behind is this one
    cases hd : ks.drop (place lt x ks) with
    | nil => rw [hd] at hkm; simp at hkm
    | cons y r =>
      have hy : ks[place lt x ks]? = some y := by
        have := congrArg (fun l => l[0]?) hd
        simpa [List.getElem?_drop] using this
      rw [hy] at hk
      simp only at hk
      obtain ⟨z, zs, hz, hzl⟩ := h2 y (by rw [hd]; simp)
      have hzx : z = x := by
        rw [hd] at hkm
        rcases List.mem_cons.1 hkm with rfl | hkm
        · rw [hx] at hz; injection hz with hz _; exact hz.symm
        · have hks : ks = ks.take (place lt x ks) ++ y :: r := by rw [← hd, List.take_append_drop]
          have hf := h; rw [hks] at hf
          obtain ⟨_, g2, _⟩ := Forest.app hf
          obtain ⟨_, _, g3⟩ := Forest.app (a := [y]) g2
          obtain ⟨a, as, b, bs, ha, hb, hl2⟩ := g3 y (by simp) k hkm
          rw [hz] at ha; injection ha with ha _
          rw [hx] at hb; injection hb with hb _
          subst ha; subst hb
          rw [hzl] at hl2; exact absurd hl2 (by simp)
      subst hzx
      rw [hz] at hk
      simp at hk
end
end Go.Proofs.Tri

/- Plain: compressed tries: what a laying, a taking out and a look do to what is held. No program in sight. -/
namespace Go.Proofs.Tri
open Tr

section
variable {β α : Type} [DecidableEq β] {lt : β → β → Bool}

/-- How many first levels two lists have in common. -/
def com : List β → List β → Nat
  | x :: xs, y :: ys => if x = y then com xs ys + 1 else 0
  | _, _ => 0

theorem com_le : ∀ (a b : List β), com a b ≤ a.length ∧ com a b ≤ b.length
  | [], b => by simp [com]
  | x :: xs, [] => by simp [com]
  | x :: xs, y :: ys => by
    have := com_le xs ys
    rw [com]; split <;> simp <;> omega

theorem com_take : ∀ (a b : List β), a.take (com a b) = b.take (com a b)
  | [], b => by simp [com]
  | x :: xs, [] => by simp [com]
  | x :: xs, y :: ys => by
    rw [com]; split
    · rename_i h; subst h; rw [List.take_succ_cons, List.take_succ_cons, com_take xs ys]
    · rfl

theorem com_next : ∀ (a b : List β) (x y : β), a[com a b]? = some x → b[com a b]? = some y → x ≠ y
  | [], b, x, y, h, _ => by simp at h
  | a :: as, [], x, y, _, h => by simp at h
  | a :: as, b :: bs, x, y, h1, h2 => by
    rw [com] at h1 h2
    split at h1
    · rename_i e
      rw [if_pos e] at h2
      exact com_next as bs x y (by simpa using h1) (by simpa using h2)
    · rename_i e
      rw [if_neg e] at h2
      simp at h1 h2; subst h1; subst h2; exact e

theorem ins_pre (c p : List β) (a : α) (l : List (List β × α)) : ins (lex lt) (c ++ p) a (pre c l) = pre c (ins (lex lt) p a l) := by
  induction l with
  | nil => rfl
  | cons e l ih =>
    show ins (lex lt) (c ++ p) a ((c ++ e.1, e.2) :: pre c l) = _
    rw [ins, ins, lex_app]
    simp only [List.append_cancel_left_eq]
    split
    · rfl
    · split
      · rfl
      · rw [ih]; rfl

theorem get_pre (c p : List β) (l : List (List β × α)) : get (c ++ p) (pre c l) = get p l := by
  induction l with
  | nil => rfl
  | cons e l ih =>
    show get (c ++ p) ((c ++ e.1, e.2) :: pre c l) = _
    rw [get, get, ih]
    simp only [List.append_cancel_left_eq]

theorem get_pre_some {c p : List β} {l : List (List β × α)} {a : α} (h : get p (pre c l) = some a) : ∃ q, p = c ++ q ∧ get q l = some a := by
  have hm := get_mem h
  obtain ⟨e, he, e1⟩ := List.mem_map.1 hm
  injection e1 with e1 e2
  refine ⟨e.1, e1.symm, ?_⟩
  rw [← e1, get_pre] at h
  exact h

theorem era_pre (c p : List β) (l : List (List β × α)) : era (c ++ p) (pre c l) = pre c (era p l) := by
  unfold era pre
  rw [List.filter_map]
  congr 1
  congr 1
  funext e
  simp

/-- A node whose edge is split behind c levels. -/
def cutAt (k : Tr β α) (c : Nat) : Tr β α := if c < k.lv.length then .node (k.lv.take c) none [.node (k.lv.drop c) k.val k.kids] else k

def put (lt : β → β → Bool) (t : Tr β α) (path : List β) (a : α) : Tr β α :=
  match path with
  | [] => .node t.lv (some a) t.kids
  | p :: ps =>
    match kidAt lt p t.kids with
    | none => .node t.lv t.val (t.kids.take (place lt p t.kids) ++ .node (p :: ps) (some a) [] :: t.kids.drop (place lt p t.kids))
    | some k => .node t.lv t.val (t.kids.set (place lt p t.kids) (put lt (cutAt k (com k.lv (p :: ps))) (ps.drop (com k.lv (p :: ps) - 1)) a))
termination_by path.length
decreasing_by simp; omega

theorem put_nil (t : Tr β α) (a : α) : put lt t [] a = .node t.lv (some a) t.kids := by rw [put]
theorem put_none {t : Tr β α} {p : β} {ps : List β} {a : α} (h : kidAt lt p t.kids = none) :
    put lt t (p :: ps) a = .node t.lv t.val (t.kids.take (place lt p t.kids) ++ .node (p :: ps) (some a) [] :: t.kids.drop (place lt p t.kids)) := by rw [put, h]
theorem put_some {t k : Tr β α} {p : β} {ps : List β} {a : α} (h : kidAt lt p t.kids = some k) :
    put lt t (p :: ps) a = .node t.lv t.val (t.kids.set (place lt p t.kids) (put lt (cutAt k (com k.lv (p :: ps))) (ps.drop (com k.lv (p :: ps) - 1)) a)) := by rw [put, h]

theorem own_lt {v : Option α} (p : β) (ps : List β) : ∀ e ∈ (ownE v : List (List β × α)), lex lt e.1 (p :: ps) = true := by
  intro e he
  cases v with
  | none => simp [ownE] at he
  | some a => simp [ownE] at he; subst he; rfl

theorem ahead {ks : List (Tr β α)} {p : β} (ps : List β) (L : Lin lt) (h : ∀ y ∈ ks, ∃ x xs, y.lv = x :: xs ∧ lt x p = true) : ∀ e ∈ entsL ks, lex lt e.1 (p :: ps) = true := by
  intro e he
  obtain ⟨k, hk, hek⟩ := entsL_mem.1 he
  obtain ⟨x, xs, hx, hl⟩ := h k hk
  obtain ⟨r, hr⟩ := ents_head hx hek
  rw [hr]; exact lex_head hl L _ _

theorem behind {ks : List (Tr β α)} {p : β} (ps : List β) (L : Lin lt) (h : ∀ y ∈ ks, ∃ x xs, y.lv = x :: xs ∧ lt p x = true) : ∀ e ∈ entsL ks, lex lt (p :: ps) e.1 = true := by
  intro e he
  obtain ⟨k, hk, hek⟩ := entsL_mem.1 he
  obtain ⟨x, xs, hx, hl⟩ := h k hk
  obtain ⟨r, hr⟩ := ents_head hx hek
  rw [hr]; exact lex_head hl L _ _

omit [DecidableEq β] in
theorem hlt_to {y k : Tr β α} {p : β} {xs : List β} (hk : k.lv = p :: xs) (h : ∃ x xs, y.lv = x :: xs ∧ lt x p = true) : hlt lt y k := by
  obtain ⟨x, ys, hx, hl⟩ := h
  exact ⟨x, ys, p, xs, hx, hk, hl⟩
omit [DecidableEq β] in
theorem hlt_from {y k : Tr β α} {p : β} {xs : List β} (hk : k.lv = p :: xs) (h : ∃ x xs, y.lv = x :: xs ∧ lt p x = true) : hlt lt k y := by
  obtain ⟨x, ys, hx, hl⟩ := h
  exact ⟨p, xs, x, ys, hk, hx, hl⟩

omit [DecidableEq β] in
/-- A node put in the place of one that begins alike. -/
theorem Forest.swap {A B : List (Tr β α)} {k k' : Tr β α} {p : β} {xs : List β} (L : Lin lt) (h : Forest lt (A ++ k :: B)) (hA : ∀ y ∈ A, ∃ x xs, y.lv = x :: xs ∧ lt x p = true) (hB : ∀ y ∈ B, ∃ x xs, y.lv = x :: xs ∧ lt p x = true)
    (hk : k'.lv = p :: xs) (ho : Ok lt k') : Forest lt (A ++ k' :: B) := by
  obtain ⟨f1, f2, _⟩ := Forest.app h
  obtain ⟨_, f3, _⟩ := Forest.app (a := [k]) f2
  refine Forest.mk' f1 (Forest.mk' (a := [k']) (Forest.one (by rw [hk]; simp) ho) f3 (fun x hx y hy => ?_)) (fun x hx y hy => ?_)
  · simp at hx; subst hx; exact hlt_from hk (hB y hy)
  · rcases List.mem_cons.1 hy with rfl | hy
    · exact hlt_to hk (hA x hx)
    · obtain ⟨a, as, ha, hal⟩ := hA x hx
      obtain ⟨b, bs, hb, hbl⟩ := hB y hy
      exact ⟨a, as, b, bs, ha, hb, L.trans _ _ _ hal hbl⟩

omit [DecidableEq β] in
theorem set_mid {γ : Type} {A B : List γ} {k x : γ} {i : Nat} (hi : A.length = i) : (A ++ k :: B).set i x = A ++ x :: B := by
  subst hi; simp

theorem put_spec (L : Lin lt) (a : α) : ∀ (n : Nat) (path : List β) (t : Tr β α), path.length ≤ n → Forest lt t.kids →
    (put lt t path a).lv = t.lv ∧ body (put lt t path a) = ins (lex lt) path a (body t) ∧ Forest lt (put lt t path a).kids ∧ (t.val.isSome = true → (put lt t path a).val.isSome = true) ∧ t.kids.length ≤ (put lt t path a).kids.length := by
  intro n
  induction n with
  | zero =>
    intro path t hn hf
    obtain rfl : path = [] := List.eq_nil_of_length_eq_zero (by omega)
    rw [put_nil]
    refine ⟨rfl, ?_, hf, fun _ => rfl, Nat.le_refl _⟩
    unfold body
    simp only [Tr.val_node, Tr.kids_node]
    cases hv : t.val with
    | none =>
      simp only [ownE, List.nil_append]
      cases he : entsL t.kids with
      | nil => simp [ins]
      | cons e r =>
        have hm : e ∈ entsL t.kids := by rw [he]; simp
        obtain ⟨k, hk, hek⟩ := entsL_mem.1 hm
        cases hlv : k.lv with
        | nil => exact absurd hlv (hf.ne k hk)
        | cons x xs =>
          obtain ⟨s, hs⟩ := ents_head hlv hek
          rw [ins, if_neg (by rw [hs]; simp), if_pos (by rw [hs]; rfl)]
          rfl
    | some b => simp [ownE, ins]
  | succ n ih =>
    intro path t hn hf
    cases path with
    | nil => exact (by
        have := ih [] t (Nat.zero_le _) hf
        exact this)
    | cons p ps =>
      cases hk : kidAt lt p t.kids with
      | none =>
        obtain ⟨h1, h2⟩ := kidAt_none L hf hk
        rw [put_none hk]
        have hsplit : t.kids = t.kids.take (place lt p t.kids) ++ t.kids.drop (place lt p t.kids) := (List.take_append_drop _ _).symm
        generalize t.kids.take (place lt p t.kids) = A at h1 hsplit ⊢
        generalize t.kids.drop (place lt p t.kids) = B at h2 hsplit ⊢
        refine ⟨rfl, ?_, ?_, fun h => h, ?_⟩
        · unfold body
          simp only [Tr.val_node, Tr.kids_node]
          rw [hsplit, entsL_app, entsL_app, entsL_cons, ins_right (lexLin L) _ (own_lt p ps), ins_right (lexLin L) _ (ahead ps L h1)]
          congr 2
          have := ins_left (a := a) ([] : List (List β × α)) (lexLin L) (behind ps L h2)
          rw [List.nil_append] at this
          rw [this, ents_body]
          simp [body, ownE, Tr.val_node, Tr.kids_node, Tr.lv_node, entsL_nil, pre, ins]
        · rw [hsplit] at hf
          obtain ⟨f1, f2, f3⟩ := Forest.app hf
          have hlv : (Tr.node (p :: ps) (some a) [] : Tr β α).lv = p :: ps := rfl
          refine Forest.mk' f1 (Forest.mk' (a := [.node (p :: ps) (some a) []]) (Forest.one (by simp [Tr.lv_node]) (Ok.of (.inl rfl) Forest.nil)) f2 (fun x hx y hy => ?_)) (fun x hx y hy => ?_)
          · simp at hx; subst hx; exact hlt_from hlv (h2 y hy)
          · rcases List.mem_cons.1 hy with rfl | hy
            · exact hlt_to hlv (h1 x hx)
            · exact f3 x hx y hy
        · simp only [Tr.kids_node]
          rw [hsplit]
          simp
      | some k =>
        obtain ⟨A, B, xs, hks, hA, hlv, h1, h2⟩ := kidAt_some L hf hk
        rw [put_some hk]
        have hfk : Forest lt (A ++ k :: B) := by rw [← hks]; exact hf
        have hok : Ok lt k := hf.ok k (by rw [hks]; simp)
        have hc1 : 1 ≤ com k.lv (p :: ps) := by rw [hlv, com, if_pos rfl]; omega
        obtain ⟨hcl, hcp⟩ := com_le k.lv (p :: ps)
        have htk := com_take k.lv (p :: ps)
        have hnx := com_next k.lv (p :: ps)
        have hdrop : ps.drop (com k.lv (p :: ps) - 1) = (p :: ps).drop (com k.lv (p :: ps)) := by
          obtain ⟨m, hm⟩ : ∃ m, com k.lv (p :: ps) = m + 1 := ⟨com k.lv (p :: ps) - 1, by omega⟩
          rw [hm]; rfl
        rw [hdrop]
        generalize com k.lv (p :: ps) = c at *
        have hpath : (p :: ps).take c ++ (p :: ps).drop c = p :: ps := List.take_append_drop _ _
        have hlen : ((p :: ps).drop c).length ≤ n := by rw [List.length_drop]; simp at hn ⊢; omega
        generalize hr : (p :: ps).drop c = rest at *
        -- what the new node is
        have key : ∃ ys, (put lt (cutAt k c) rest a).lv = p :: ys ∧ ents (put lt (cutAt k c) rest a) = ins (lex lt) (p :: ps) a (ents k) ∧ Ok lt (put lt (cutAt k c) rest a) := by
          by_cases hlt' : c < k.lv.length
          · have hcut : cutAt k c = .node (k.lv.take c) none [.node (k.lv.drop c) k.val k.kids] := by unfold cutAt; rw [if_pos hlt']
            have hlow : Ok lt (.node (k.lv.drop c) k.val k.kids) := Ok.of hok.full hok.forest
            have hlowne : (Tr.node (k.lv.drop c) k.val k.kids : Tr β α).lv ≠ [] := by
              simp only [Tr.lv_node]; intro e; have := congrArg List.length e; rw [List.length_drop] at this; simp at this; omega
            have hff : Forest lt (cutAt k c).kids := by rw [hcut]; exact Forest.one hlowne hlow
            obtain ⟨i1, i2, i3, i4, i5⟩ := ih rest (cutAt k c) hlen hff
            have hlv2 : (put lt (cutAt k c) rest a).lv = (p :: ps).take c := by rw [i1, hcut]; exact htk
            obtain ⟨m, hm⟩ : ∃ m, c = m + 1 := ⟨c - 1, by omega⟩
            refine ⟨ps.take m, by rw [hlv2, hm]; rfl, ?_, Ok.of ?_ i3⟩
            · rw [ents_body, i2, hlv2]
              have hb : body (cutAt k c) = pre (k.lv.drop c) (body k) := by
                rw [hcut]; simp only [body, ownE, Tr.val_node, Tr.kids_node, List.nil_append, entsL_cons, entsL_nil, List.append_nil]
                rw [ents_body]; rfl
              rw [hb, ← ins_pre, pre_pre, hpath, ← htk, List.take_append_drop, ← ents_body]
            · cases rest with
              | nil => left; rw [put_nil]; rfl
              | cons q qs =>
                right
                have hq : (p :: ps)[c]? = some q := by
                  have := congrArg (fun l => l[0]?) hr
                  simpa [List.getElem?_drop] using this
                have hkn : kidAt lt q (cutAt k c).kids = none := by
                  rw [hcut]
                  unfold kidAt
                  simp only [Tr.kids_node]
                  split
                  · rename_i k' hk'
                    have hk'' : k' = .node (k.lv.drop c) k.val k.kids := by
                      have := List.mem_of_getElem? hk'; simpa using this
                    rw [if_neg]
                    rw [hk'']
                    simp only [Tr.lv_node]
                    rw [List.head?_drop]
                    intro e
                    exact hnx q q e hq rfl
                  · rfl
                rw [put_none hkn, hcut]
                simp [Tr.kids_node]
                omega
          · have hcut : cutAt k c = k := by unfold cutAt; rw [if_neg hlt']
            have hce : c = k.lv.length := by omega
            rw [hcut]
            obtain ⟨i1, i2, i3, i4, i5⟩ := ih rest k hlen hok.forest
            refine ⟨xs, by rw [i1, hlv], ?_, Ok.of ?_ i3⟩
            · rw [ents_body, i1, i2, ents_body, ← ins_pre]
              have : k.lv = (p :: ps).take c := by rw [← htk, hce, List.take_length]
              rw [this, hpath]
            · rcases hok.full with h | h
              · exact .inl (i4 h)
              · exact .inr (by omega)
        obtain ⟨ys, e1, e2, e3⟩ := key
        generalize put lt (cutAt k c) rest a = k' at *
        rw [hks] at hA ⊢
        rw [set_mid hA]
        refine ⟨rfl, ?_, Forest.swap L hfk h1 h2 e1 e3, fun h => h, by simp [Tr.kids_node]⟩
        unfold body
        simp only [Tr.val_node, Tr.kids_node]
        rw [hks, entsL_app, entsL_cons, entsL_app, entsL_cons, e2, ins_right (lexLin L) _ (own_lt p ps), ins_right (lexLin L) _ (ahead ps L h1), ins_left _ (lexLin L) (behind ps L h2)]
end
end Go.Proofs.Tri

/- Plain: compressed tries: a look at a path, a taking out, a filter's finds, how many nodes there are; a trie is told by what it holds. No program in sight. -/
namespace Go.Proofs.Tri
open Tr

section
variable {β α : Type} [DecidableEq β] {lt : β → β → Bool}

/-! ### The node at a path -/
def nodeAt (lt : β → β → Bool) (t : Tr β α) (path : List β) : Option (Tr β α) :=
  match path with
  | [] => some t
  | p :: ps =>
    match kidAt lt p t.kids with
    | none => none
    | some k => if (p :: ps).take k.lv.length = k.lv then nodeAt lt k (ps.drop (k.lv.length - 1)) else none
termination_by path.length
decreasing_by simp; omega

theorem nodeAt_nil (t : Tr β α) : nodeAt lt t [] = some t := by rw [nodeAt]
theorem nodeAt_none {t : Tr β α} {p : β} {ps : List β} (h : kidAt lt p t.kids = none) : nodeAt lt t (p :: ps) = none := by rw [nodeAt, h]
theorem nodeAt_some {t k : Tr β α} {p : β} {ps : List β} (h : kidAt lt p t.kids = some k) :
    nodeAt lt t (p :: ps) = if (p :: ps).take k.lv.length = k.lv then nodeAt lt k (ps.drop (k.lv.length - 1)) else none := by rw [nodeAt, h]

theorem get_far {l : List (List β × α)} {q : List β} (L : Lin lt) (h : (∀ e ∈ l, lex lt e.1 q = true) ∨ (∀ e ∈ l, lex lt q e.1 = true)) : get q l = none := by
  rw [get_none]
  intro e he
  rcases h with h | h
  · exact (lexLin L).ne (h e he)
  · exact Ne.symm ((lexLin L).ne (h e he))

theorem get_own {v : Option α} (p : β) (ps : List β) : get (p :: ps) (ownE v) = none := by
  cases v <;> simp [ownE, get]

/-- What a path beginning with a level tells: what its edge does. -/
theorem get_kid (L : Lin lt) {t : Tr β α} (hf : Forest lt t.kids) (p : β) (ps : List β) :
    get (p :: ps) (body t) = match kidAt lt p t.kids with | some k => get (p :: ps) (ents k) | none => none := by
  unfold body
  rw [get_app, get_own, Option.none_or]
  cases hk : kidAt lt p t.kids with
  | none =>
    obtain ⟨h1, h2⟩ := kidAt_none L hf hk
    rw [← List.take_append_drop (place lt p t.kids) t.kids, entsL_app, get_app, get_far L (.inl (ahead ps L h1)), get_far L (.inr (behind ps L h2))]
    rfl
  | some k =>
    obtain ⟨A, B, xs, hks, hA, hlv, h1, h2⟩ := kidAt_some L hf hk
    rw [hks, entsL_app, get_app, get_far L (.inl (ahead ps L h1)), entsL_cons, get_app, get_far L (.inr (behind ps L h2)), Option.none_or, Option.or_none]

theorem nodeAt_spec (L : Lin lt) : ∀ (n : Nat) (path : List β) (t : Tr β α), path.length ≤ n → Forest lt t.kids → (nodeAt lt t path).bind Tr.val = get path (body t) := by
  intro n
  induction n with
  | zero =>
    intro path t hn hf
    obtain rfl : path = [] := List.eq_nil_of_length_eq_zero (by omega)
    rw [nodeAt_nil, Option.bind_some]
    unfold body
    cases t.val with
    | some a => simp [ownE, get]
    | none =>
      simp only [ownE, List.nil_append]
      symm
      rw [get_none]
      intro e he
      obtain ⟨k, hk, hek⟩ := entsL_mem.1 he
      cases hlv : k.lv with
      | nil => exact absurd hlv (hf.ne k hk)
      | cons x xs => obtain ⟨r, hr⟩ := ents_head hlv hek; rw [hr]; simp
  | succ n ih =>
    intro path t hn hf
    cases path with
    | nil => exact ih [] t (Nat.zero_le _) hf
    | cons p ps =>
      rw [get_kid L hf]
      cases hk : kidAt lt p t.kids with
      | none => rw [nodeAt_none hk]; rfl
      | some k =>
        obtain ⟨A, B, xs, hks, hA, hlv, h1, h2⟩ := kidAt_some L hf hk
        have hok : Ok lt k := hf.ok k (by rw [hks]; simp)
        rw [nodeAt_some hk]
        simp only
        have hd : ps.drop (k.lv.length - 1) = (p :: ps).drop k.lv.length := by rw [hlv]; simp
        rw [hd]
        by_cases hp : (p :: ps).take k.lv.length = k.lv
        · rw [if_pos hp, ih _ k (by rw [List.length_drop, hlv]; simp at hn ⊢; omega) hok.forest, ents_body]
          have := get_pre k.lv ((p :: ps).drop k.lv.length) (body k)
          rw [← this]
          congr 1
          have := List.take_append_drop k.lv.length (p :: ps)
          rw [hp] at this
          exact this
        · rw [if_neg hp]
          symm
          rw [Option.bind_none, get_none]
          intro e he hep
          obtain ⟨r, hr, _⟩ := ents_mem he
          rw [hep] at hr
          exact hp (by rw [hr, List.take_left])

/-! ### A taking out -/
/-- What stands in the place of a node that has lost something. -/
def repl (i : Nat) (k : Tr β α) (ks : List (Tr β α)) : List (Tr β α) :=
  if k.val.isSome = true ∨ 1 < k.kids.length then ks.set i k
  else match k.kids with
    | [] => ks.take i ++ ks.drop (i + 1)
    | only :: _ => ks.set i (.node (k.lv ++ only.lv) only.val only.kids)

def drp (lt : β → β → Bool) (t : Tr β α) (path : List β) : Tr β α :=
  match path with
  | [] => .node t.lv none t.kids
  | p :: ps =>
    match kidAt lt p t.kids with
    | none => t
    | some k => .node t.lv t.val (repl (place lt p t.kids) (drp lt k (ps.drop (k.lv.length - 1))) t.kids)
termination_by path.length
decreasing_by simp; omega

theorem drp_nil (t : Tr β α) : drp lt t [] = .node t.lv none t.kids := by rw [drp]
theorem drp_some {t k : Tr β α} {p : β} {ps : List β} (h : kidAt lt p t.kids = some k) :
    drp lt t (p :: ps) = .node t.lv t.val (repl (place lt p t.kids) (drp lt k (ps.drop (k.lv.length - 1))) t.kids) := by rw [drp, h]

theorem era_far {l : List (List β × α)} {q : List β} (L : Lin lt) (h : (∀ e ∈ l, lex lt e.1 q = true) ∨ (∀ e ∈ l, lex lt q e.1 = true)) : era q l = l := era_none (get_none.1 (get_far L h))

theorem drp_spec (L : Lin lt) : ∀ (n : Nat) (path : List β) (t : Tr β α), path.length ≤ n → Forest lt t.kids → (get path (body t)).isSome = true →
    (drp lt t path).lv = t.lv ∧ body (drp lt t path) = era path (body t) ∧ Forest lt (drp lt t path).kids := by
  intro n
  induction n with
  | zero =>
    intro path t hn hf hg
    obtain rfl : path = [] := List.eq_nil_of_length_eq_zero (by omega)
    rw [drp_nil]
    refine ⟨rfl, ?_, hf⟩
    have he : ∀ e ∈ entsL t.kids, e.1 ≠ [] := by
      intro e he
      obtain ⟨k, hk, hek⟩ := entsL_mem.1 he
      cases hlv : k.lv with
      | nil => exact absurd hlv (hf.ne k hk)
      | cons x xs => obtain ⟨r, hr⟩ := ents_head hlv hek; rw [hr]; simp
    unfold body
    rw [era_app, era_none he]
    congr 1
    show ownE none = _
    cases t.val <;> simp [ownE, era]
  | succ n ih =>
    intro path t hn hf hg
    cases path with
    | nil => exact ih [] t (Nat.zero_le _) hf hg
    | cons p ps =>
      rw [get_kid L hf] at hg
      cases hk : kidAt lt p t.kids with
      | none => rw [hk] at hg; simp at hg
      | some k =>
        rw [hk] at hg
        simp only at hg
        obtain ⟨A, B, xs, hks, hA, hlv, h1, h2⟩ := kidAt_some L hf hk
        have hok : Ok lt k := hf.ok k (by rw [hks]; simp)
        have hfk : Forest lt (A ++ k :: B) := by rw [← hks]; exact hf
        obtain ⟨f1, f2, f3⟩ := Forest.app hfk
        obtain ⟨_, f4, f5⟩ := Forest.app (a := [k]) f2
        obtain ⟨a, ha⟩ := Option.isSome_iff_exists.1 hg
        rw [ents_body] at ha
        obtain ⟨q, hq, hgq⟩ := get_pre_some ha
        have hd : ps.drop (k.lv.length - 1) = q := by
          have : ps.drop (k.lv.length - 1) = (p :: ps).drop k.lv.length := by rw [hlv]; simp
          rw [this, hq, List.drop_left]
        rw [drp_some hk, hd]
        have hql : q.length ≤ n := by
          have := congrArg List.length hq
          rw [List.length_append, hlv] at this
          simp at this hn
          omega
        obtain ⟨i1, i2, i3⟩ := ih q k hql hok.forest (by rw [hgq]; rfl)
        generalize drp lt k q = k' at *
        have hbody : era (p :: ps) (body t) = ownE t.val ++ (entsL A ++ (pre k.lv (body k') ++ entsL B)) := by
          unfold body
          rw [hks, entsL_app, entsL_cons, era_app, era_app, era_app, era_far L (.inl (own_lt p ps)), era_far L (.inl (ahead ps L h1)), era_far L (.inr (behind ps L h2)), ents_body, hq, era_pre, ← i2]
          rfl
        have hlv' : k'.lv = p :: xs := by rw [i1, hlv]
        rw [hks] at hA ⊢
        unfold repl
        split
        · rename_i hfull
          rw [set_mid hA]
          refine ⟨rfl, ?_, Forest.swap L hfk h1 h2 hlv' (Ok.of (by rcases hfull with h | h; exact .inl h; exact .inr h) i3)⟩
          rw [hbody]
          unfold body
          rw [Tr.val_node, Tr.kids_node, entsL_app, entsL_cons, ents_body k', i1]
          rfl
        · rename_i hfull
          have hv : k'.val = none := by cases h : k'.val with
            | none => rfl
            | some b => exact absurd (.inl (by rw [h]; rfl)) hfull
          split
          · rename_i hkk
            have hb : body k' = [] := by unfold body; rw [hv, hkk]; rfl
            have e1 : (A ++ k :: B).take (place lt p (A ++ k :: B)) = A := by rw [← hA, List.take_left]
            have e2 : (A ++ k :: B).drop (place lt p (A ++ k :: B) + 1) = B := by rw [← hA]; simp
            rw [e1, e2]
            refine ⟨rfl, ?_, Forest.mk' f1 f4 (fun x hx y hy => f3 x hx y (by simp [hy]))⟩
            rw [hbody, hb]
            unfold body
            rw [Tr.val_node, Tr.kids_node, entsL_app]
            rfl
          · rename_i only r hkk
            have hr : r = [] := by
              cases r with
              | nil => rfl
              | cons y r => exact absurd (.inr (by rw [hkk]; simp)) hfull
            subst hr
            rw [set_mid hA]
            have ho : Ok lt only := i3.ok only (by rw [hkk]; simp)
            have hlo : (Tr.node (k'.lv ++ only.lv) only.val only.kids : Tr β α).lv = p :: (xs ++ only.lv) := by rw [Tr.lv_node, hlv']; rfl
            refine ⟨rfl, ?_, Forest.swap L hfk h1 h2 hlo (Ok.of ho.full ho.forest)⟩
            rw [hbody]
            have hb : body k' = pre only.lv (body only) := by
              unfold body
              rw [hv, hkk, entsL_cons, entsL_nil, ents_body]
              simp [ownE, body]
            have he : ents (Tr.node (k'.lv ++ only.lv) only.val only.kids : Tr β α) = pre k.lv (body k') := by
              rw [ents_body, hb, pre_pre, Tr.lv_node, i1]
              rfl
            unfold body
            rw [Tr.val_node, Tr.kids_node, entsL_app, entsL_cons, he]
            rfl

/-! ### How many nodes -/
omit [DecidableEq β] in
theorem nodes_le : ∀ (t : Tr β α), Ok lt t → nodes t + 1 ≤ 2 * (body t).length := by
  intro t
  refine Tr.ind (P := fun t => Ok lt t → nodes t + 1 ≤ 2 * (body t).length) (fun lv v ks ih h => ?_) t
  have hks : ∀ ks : List (Tr β α), (∀ k ∈ ks, nodes k + 1 ≤ 2 * (body k).length) → nodesL ks + ks.length ≤ 2 * (entsL ks).length := by
    intro ks
    induction ks with
    | nil => intro _; simp [nodesL]
    | cons k ks ihk =>
      intro hb
      have h1 := hb k (by simp)
      have h2 := ihk (fun x hx => hb x (by simp [hx]))
      rw [nodesL, entsL_cons, List.length_append, ents_body, pre_length, List.length_cons]
      omega
  have hk := hks ks (fun k hk => ih k hk (h.forest.ok k hk))
  unfold body
  rw [nodes, List.length_append, Tr.kids_node, Tr.val_node]
  rcases h.full with hv | hl
  · rw [Tr.val_node] at hv
    obtain ⟨a, ha⟩ := Option.isSome_iff_exists.1 hv
    rw [ha]
    simp only [ownE, List.length_singleton]
    omega
  · rw [Tr.kids_node] at hl
    omega

omit [DecidableEq β] in
theorem nodesL_le : ∀ (ks : List (Tr β α)), Forest lt ks → nodesL ks + ks.length ≤ 2 * (entsL ks).length
  | [], _ => by simp [nodesL]
  | k :: ks, h => by
    obtain ⟨f1, f2, _⟩ := Forest.app (a := [k]) (b := ks) h
    have h1 := nodes_le k (f1.ok k (by simp))
    have h2 := nodesL_le ks f2
    rw [nodesL, entsL_cons, List.length_append, ents_body, pre_length, List.length_cons]
    omega

omit [DecidableEq β] in
/-- The bound of a whole trie. -/
theorem nodes_root {t : Tr β α} (h : Forest lt t.kids) : 1 ≤ nodes t ∧ nodes t ≤ 2 * (body t).length + 1 ∧ (0 < (body t).length ∨ nodes t = 1) := by
  have h1 := nodesL_le t.kids h
  have hn : nodes t = nodesL t.kids + 1 := by cases t; rfl
  unfold body
  rw [List.length_append]
  refine ⟨by omega, by omega, ?_⟩
  by_cases h0 : 0 < (ownE t.val : List (List β × α)).length + (entsL t.kids).length
  · exact .inl h0
  · right; omega

/-! ### A trie is told by what it holds -/
omit [DecidableEq β] in
theorem ents_lv {k : Tr β α} {e : List β × α} (h : e ∈ ents k) : k.lv <+: e.1 := by
  obtain ⟨r, hr, _⟩ := ents_mem h
  exact ⟨r, hr.symm⟩

omit [DecidableEq β] in
/-- Below an edge that is longer than another one, what both hold begins with the longer one: so the shorter one's node has but one edge. -/
theorem lv_short (L : Lin lt) {k1 k2 : Tr β α} (h1 : Ok lt k1) (h : ents k1 = ents k2) {x : β} {r : List β} (hlv : k2.lv = k1.lv ++ x :: r) : False := by
  have hall : ∀ e ∈ body k1, ∃ s, e.1 = x :: s := by
    intro e he
    have hm : (k1.lv ++ e.1, e.2) ∈ ents k1 := by rw [ents_body]; exact List.mem_map.2 ⟨e, he, rfl⟩
    rw [h] at hm
    obtain ⟨s, hs⟩ := ents_lv hm
    rw [hlv, List.append_assoc] at hs
    exact ⟨r ++ s, (List.append_cancel_left hs).symm⟩
  have hv : k1.val = none := by
    cases hv : k1.val with
    | none => rfl
    | some a =>
      obtain ⟨s, hs⟩ := hall ([], a) (by unfold body; rw [hv]; simp [ownE])
      simp at hs
  rcases h1.full with hf | hf
  · rw [hv] at hf; simp at hf
  · have hfor := h1.forest
    have hb : body k1 = entsL k1.kids := by unfold body; rw [hv]; rfl
    rw [hb] at hall
    generalize k1.kids = ks at hf hfor hall
    match ks, hf with
    | a :: b :: ks, _ =>
      obtain ⟨_, _, f3⟩ := Forest.app (a := [a]) hfor
      obtain ⟨y, ys, z, zs, ha, hb, hl⟩ := f3 a (by simp) b (by simp)
      have na := (hfor.ok a (by simp)).ents_ne
      have nb := (hfor.ok b (by simp)).ents_ne
      obtain ⟨ea, hea⟩ := List.exists_mem_of_ne_nil _ na
      obtain ⟨eb, heb⟩ := List.exists_mem_of_ne_nil _ nb
      obtain ⟨s, hs⟩ := hall ea (entsL_mem.2 ⟨a, by simp, hea⟩)
      obtain ⟨s', hs'⟩ := hall eb (entsL_mem.2 ⟨b, by simp, heb⟩)
      obtain ⟨q, hq⟩ := ents_head ha hea
      obtain ⟨q', hq'⟩ := ents_head hb heb
      rw [hs] at hq; injection hq with hq _
      rw [hs'] at hq'; injection hq' with hq' _
      rw [← hq, ← hq', L.irr] at hl
      exact absurd hl (by simp)

omit [DecidableEq β] in
theorem lv_eq (L : Lin lt) {k1 k2 : Tr β α} (h1 : Ok lt k1) (h2 : Ok lt k2) (h : ents k1 = ents k2) : k1.lv = k2.lv := by
  obtain ⟨e, he⟩ := List.exists_mem_of_ne_nil _ h1.ents_ne
  have p1 := ents_lv he
  have p2 := ents_lv (h ▸ he)
  rcases List.prefix_or_prefix_of_prefix p1 p2 with ⟨r, hr⟩ | ⟨r, hr⟩
  · cases r with
    | nil => simpa using hr
    | cons x r => exact (lv_short L h1 h hr.symm).elim
  · cases r with
    | nil => simpa using hr.symm
    | cons x r => exact (lv_short L h2 h.symm hr.symm).elim

omit [DecidableEq β] in
theorem pre_inj {c : List β} : ∀ {a b : List (List β × α)}, pre c a = pre c b → a = b
  | [], [], _ => rfl
  | [], x :: b, h => by simp [pre] at h
  | x :: a, [], h => by simp [pre] at h
  | x :: a, y :: b, h => by
    injection h with h1 h2
    injection h1 with h3 h4
    rw [pre_inj h2, Prod.ext (List.append_cancel_left h3) h4]

/-- The part of a list that begins with a level. -/
def withHead (x : β) (l : List (List β × α)) : List (List β × α) := l.filter (fun e => decide (e.1.head? = some x))

theorem withHead_all {x : β} {l : List (List β × α)} (h : ∀ e ∈ l, e.1.head? = some x) : withHead x l = l := by
  unfold withHead; rw [List.filter_eq_self]; intro e he; simpa using h e he
theorem withHead_no {x : β} {l : List (List β × α)} (h : ∀ e ∈ l, e.1.head? ≠ some x) : withHead x l = [] := by
  unfold withHead; rw [List.filter_eq_nil_iff]; intro e he; simpa using h e he

theorem trie_ext (L : Lin lt) : ∀ (n : Nat) (t1 t2 : Tr β α), nodes t1 ≤ n → Forest lt t1.kids → Forest lt t2.kids → t1.lv = t2.lv → body t1 = body t2 → t1 = t2 := by
  intro n
  induction n with
  | zero => intro t1 t2 hn; cases t1; rw [nodes] at hn; omega
  | succ n ih =>
    intro t1 t2 hn hf1 hf2 hlv hb
    have hval : t1.val = t2.val := by
      have h1 := nodeAt_spec L 0 [] t1 (Nat.le_refl _) hf1
      have h2 := nodeAt_spec L 0 [] t2 (Nat.le_refl _) hf2
      rw [nodeAt_nil, Option.bind_some] at h1 h2
      rw [h1, h2, hb]
    have hents : entsL t1.kids = entsL t2.kids := by
      unfold body at hb
      rw [hval] at hb
      exact List.append_cancel_left hb
    have hkids : ∀ (a b : List (Tr β α)), nodesL a ≤ n → Forest lt a → Forest lt b → entsL a = entsL b → a = b := by
      intro a
      induction a with
      | nil =>
        intro b _ _ fb he
        cases b with
        | nil => rfl
        | cons k b =>
          rw [entsL_nil, entsL_cons] at he
          have := (List.append_eq_nil_iff.1 he.symm).1
          exact absurd this (fb.ok k (by simp)).ents_ne
      | cons k1 a iha =>
        intro b hna fa fb he
        cases b with
        | nil =>
          rw [entsL_nil, entsL_cons] at he
          have := (List.append_eq_nil_iff.1 he).1
          exact absurd this (fa.ok k1 (by simp)).ents_ne
        | cons k2 b =>
          obtain ⟨fa1, fa2, fa3⟩ := Forest.app (a := [k1]) fa
          obtain ⟨fb1, fb2, fb3⟩ := Forest.app (a := [k2]) fb
          have o1 := fa1.ok k1 (by simp)
          have o2 := fb1.ok k2 (by simp)
          cases hl1 : k1.lv with
          | nil => exact absurd hl1 (fa1.ne k1 (by simp))
          | cons x xs =>
            cases hl2 : k2.lv with
            | nil => exact absurd hl2 (fb1.ne k2 (by simp))
            | cons y ys =>
              -- the first thing that is held begins with both
              have hxy : x = y := by
                rw [entsL_cons, entsL_cons] at he
                cases he1 : ents k1 with
                | nil => exact absurd he1 o1.ents_ne
                | cons e1 r1 =>
                  cases he2 : ents k2 with
                  | nil => exact absurd he2 o2.ents_ne
                  | cons e2 r2 =>
                    rw [he1, he2] at he
                    injection he with he _
                    obtain ⟨s, hs⟩ := ents_head hl1 (e := e1) (by rw [he1]; simp)
                    obtain ⟨s', hs'⟩ := ents_head hl2 (e := e2) (by rw [he2]; simp)
                    rw [he, hs'] at hs
                    injection hs with hs _
                    exact hs.symm
              subst hxy
              have p1 : withHead x (ents k1) = ents k1 := withHead_all (fun e he => by obtain ⟨s, hs⟩ := ents_head hl1 he; rw [hs]; rfl)
              have p2 : withHead x (ents k2) = ents k2 := withHead_all (fun e he => by obtain ⟨s, hs⟩ := ents_head hl2 he; rw [hs]; rfl)
              have no : ∀ (k : Tr β α) (xs : List β) (ks : List (Tr β α)), k.lv = x :: xs → (∀ z ∈ ks, hlt lt k z) → withHead x (entsL ks) = [] := by
                intro k xs ks hk hz
                refine withHead_no (fun e he => ?_)
                obtain ⟨z, hzm, hez⟩ := entsL_mem.1 he
                obtain ⟨a, as, b, bs, ha, hb, hl⟩ := hz z hzm
                rw [hk] at ha; injection ha with ha _
                obtain ⟨s, hs⟩ := ents_head hb hez
                rw [hs]
                simp only [List.head?_cons, ne_eq, Option.some.injEq]
                rw [ha]
                exact Ne.symm (L.ne hl)
              have q1 := no k1 xs a hl1 (fun z hz => fa3 k1 (by simp) z hz)
              have q2 := no k2 ys b hl2 (fun z hz => fb3 k2 (by simp) z hz)
              have hek : ents k1 = ents k2 := by
                have := congrArg (withHead x) he
                rw [entsL_cons, entsL_cons] at this
                unfold withHead at this p1 p2 q1 q2
                rw [List.filter_append, List.filter_append, p1, p2, q1, q2, List.append_nil, List.append_nil] at this
                exact this
              have her : entsL a = entsL b := by
                rw [entsL_cons, entsL_cons, hek] at he
                exact List.append_cancel_left he
              have hlk := lv_eq L o1 o2 hek
              rw [nodesL] at hna
              have hk : k1 = k2 := by
                refine ih k1 k2 (by omega) o1.forest o2.forest hlk ?_
                rw [ents_body, ents_body, hlk] at hek
                exact pre_inj hek
              rw [hk, iha b (by omega) fa2 fb2 her]
    have hn1 : nodes t1 = nodesL t1.kids + 1 := by cases t1; rfl
    rw [Tr.eta t1, Tr.eta t2, hlv, hval, hkids t1.kids t2.kids (by omega) hf1 hf2 hents]

/-! ### What a filter finds -/
variable (hash plus dollar : β → Bool)

/-- What is left of a filter's levels behind an edge. -/
def left : List β → List β → Option (List β)
  | f, [] => some f
  | [], _ :: _ => none
  | x :: xs, s :: es => if hash x then some (x :: xs) else if plus x || decide (x = s) then left xs es else none

def goes : List β → List β → Bool
  | [], t => t.isEmpty
  | x :: xs, t => if hash x then true else match t with
    | [] => false
    | s :: ts => if plus x || decide (x = s) then goes xs ts else false

theorem goes_hash {x : β} (hx : hash x = true) (xs t : List β) : goes hash plus (x :: xs) t = true := by cases t <;> simp [goes, hx]

theorem goes_left : ∀ (f edge r : List β), goes hash plus f (edge ++ r) = match left hash plus f edge with | some g => goes hash plus g r | none => false
  | f, [], r => by simp [left]
  | [], s :: es, r => by simp [left, goes]
  | x :: xs, s :: es, r => by
    rw [left, List.cons_append]
    have hg : goes hash plus (x :: xs) (s :: (es ++ r)) = if hash x then true else if plus x || decide (x = s) then goes hash plus xs (es ++ r) else false := by simp only [goes]
    rw [hg]
    by_cases hx : hash x = true
    · rw [if_pos hx, if_pos hx]
      simp only
      rw [goes_hash hash plus hx]
    · rw [if_neg hx, if_neg hx]
      by_cases hp : (plus x || decide (x = s)) = true
      · rw [if_pos hp, if_pos hp]; exact goes_left xs es r
      · rw [if_neg hp, if_neg hp]

def vals (l : List (List β × α)) : List α := l.map (·.2)

mutual
def fnd : Tr β α → List β → Bool → List α
  | .node _ v ks, f, first =>
    match f with
    | [] => vals (ownE v : List (List β × α))
    | x :: xs => if hash x && !first then vals (ownE v ++ entsL ks) else fndL ks (x :: xs) first
def fndL : List (Tr β α) → List β → Bool → List α
  | [], _, _ => []
  | k :: ks, f, first => (if first && (k.lv.head?.map dollar).getD false then [] else match left hash plus f k.lv with
      | some g => fnd k g false
      | none => []) ++ fndL ks f first
end

theorem fnd_spec : ∀ (t : Tr β α), Forest lt t.kids → ∀ f, fnd hash plus dollar t f false = vals ((body t).filter (fun e => goes hash plus f e.1)) := by
  intro t
  refine Tr.ind (P := fun t => Forest lt t.kids → ∀ f, fnd hash plus dollar t f false = vals ((body t).filter (fun e => goes hash plus f e.1))) (fun lv v ks ih h f => ?_) t
  have hL : ∀ ks : List (Tr β α), (∀ k ∈ ks, Forest lt k.kids → ∀ f, fnd hash plus dollar k f false = vals ((body k).filter (fun e => goes hash plus f e.1))) → Forest lt ks →
      fndL hash plus dollar ks f false = vals ((entsL ks).filter (fun e => goes hash plus f e.1)) := by
    intro ks
    induction ks with
    | nil => intro _ _; rfl
    | cons k ks ihk =>
      intro hb hf
      obtain ⟨f1, f2, _⟩ := Forest.app (a := [k]) (b := ks) hf
      rw [fndL, entsL_cons, List.filter_append, ihk (fun x hx => hb x (by simp [hx])) f2]
      unfold vals
      rw [List.map_append]
      congr 1
      simp only [Bool.false_and, Bool.false_eq_true, if_false]
      rw [ents_body]
      unfold pre
      rw [List.filter_map, List.map_map]
      have hg : (fun e : List β × α => goes hash plus f e.1) ∘ (fun e : List β × α => (k.lv ++ e.1, e.2)) = fun e : List β × α => match left hash plus f k.lv with | some g => goes hash plus g e.1 | none => false := by
        funext e; exact goes_left hash plus f k.lv e.1
      rw [hg]
      cases left hash plus f k.lv with
      | none => simp
      | some g =>
        simp only
        rw [hb k (by simp) (f1.ok k (by simp)).forest g]
        rfl
  rw [Tr.kids_node] at h
  have hks := hL ks (fun k hk => ih k hk) h
  unfold body
  rw [Tr.val_node, Tr.kids_node]
  cases f with
  | nil =>
    rw [fnd]
    congr 1
    rw [List.filter_append]
    have h1 : (ownE v : List (List β × α)).filter (fun e => goes hash plus [] e.1) = ownE v := by cases v <;> simp [ownE, goes]
    have h2 : (entsL ks).filter (fun e => goes hash plus [] e.1) = [] := by
      rw [List.filter_eq_nil_iff]
      intro e he
      obtain ⟨k, hk, hek⟩ := entsL_mem.1 he
      cases hlv : k.lv with
      | nil => exact absurd hlv (h.ne k hk)
      | cons x xs => obtain ⟨r, hr⟩ := ents_head hlv hek; rw [hr]; simp [goes]
    rw [h1, h2, List.append_nil]
  | cons x xs =>
    rw [fnd]
    by_cases hx : hash x = true
    · simp only [hx, Bool.not_false, Bool.and_true, if_true]
      congr 1
      symm
      rw [List.filter_eq_self]
      intro e _
      rw [goes_hash hash plus hx]
    · have : (hash x && !false) = false := by simpa using hx
      rw [this]
      simp only [Bool.false_eq_true, if_false]
      rw [hks, List.filter_append]
      have h1 : (ownE v : List (List β × α)).filter (fun e => goes hash plus (x :: xs) e.1) = [] := by
        have hx' : hash x = false := by simpa using hx
        cases v <;> simp [ownE, goes, hx']
      rw [h1, List.nil_append]

/-- From the root, with a filter that begins with a sign. -/
theorem fnd_first {t : Tr β α} (h : Forest lt t.kids) (hv : t.val = none) (x : β) (xs : List β) :
    fnd hash plus dollar t (x :: xs) true = vals ((body t).filter (fun e => goes hash plus (x :: xs) e.1 && !(e.1.head?.map dollar).getD false)) := by
  have hL : ∀ ks : List (Tr β α), Forest lt ks → fndL hash plus dollar ks (x :: xs) true = vals ((entsL ks).filter (fun e => goes hash plus (x :: xs) e.1 && !(e.1.head?.map dollar).getD false)) := by
    intro ks
    induction ks with
    | nil => intro _; rfl
    | cons k ks ihk =>
      intro hf
      obtain ⟨f1, f2, _⟩ := Forest.app (a := [k]) (b := ks) hf
      rw [fndL, entsL_cons, List.filter_append, ihk f2]
      unfold vals
      rw [List.map_append]
      congr 1
      cases hlv : k.lv with
      | nil => exact absurd hlv (f1.ne k (by simp))
      | cons y ys =>
        simp only [Bool.true_and, List.head?_cons, Option.map_some, Option.getD_some]
        by_cases hd : dollar y = true
        · rw [if_pos hd]
          symm
          rw [List.map_eq_nil_iff, List.filter_eq_nil_iff]
          intro e he
          obtain ⟨r, hr⟩ := ents_head hlv he
          rw [hr]; simp [hd]
        · rw [if_neg hd]
          have hsame : (ents k).filter (fun e => goes hash plus (x :: xs) e.1 && !(e.1.head?.map dollar).getD false) = (ents k).filter (fun e => goes hash plus (x :: xs) e.1) := by
            refine List.filter_congr (fun e he => ?_)
            obtain ⟨r, hr⟩ := ents_head hlv he
            rw [hr]; simp [hd]
          rw [hsame, ents_body]
          unfold pre
          rw [List.filter_map, List.map_map]
          have hg : (fun e : List β × α => goes hash plus (x :: xs) e.1) ∘ (fun e : List β × α => (k.lv ++ e.1, e.2)) = fun e : List β × α => match left hash plus (x :: xs) k.lv with | some g => goes hash plus g e.1 | none => false := by
            funext e; exact goes_left hash plus (x :: xs) k.lv e.1
          rw [hg, ← hlv]
          cases left hash plus (x :: xs) k.lv with
          | none => simp
          | some g =>
            simp only
            rw [fnd_spec (lt := lt) hash plus dollar k (f1.ok k (by simp)).forest g]
            rfl
  have ht : fnd hash plus dollar t (x :: xs) true = fndL hash plus dollar t.kids (x :: xs) true := by
    cases t; rw [fnd]; simp only [Bool.not_true, Bool.and_false, Bool.false_eq_true, if_false]; rfl
  rw [ht, hL t.kids h]
  unfold body
  rw [hv]
  rfl
end
end Go.Proofs.Tri

/- Plain: a tree with other values at its nodes. No program in sight. -/
namespace Go.Proofs.Tri
section
variable {β α γ : Type}
mutual
def mapTr (f : α → γ) : Tr β α → Tr β γ
  | .node lv v ks => .node lv (v.map f) (mapTrL f ks)
def mapTrL (f : α → γ) : List (Tr β α) → List (Tr β γ)
  | [] => []
  | k :: ks => mapTr f k :: mapTrL f ks
end
theorem mapTrL_eq (f : α → γ) : ∀ ks : List (Tr β α), mapTrL f ks = ks.map (mapTr f)
  | [] => rfl
  | k :: ks => by rw [mapTrL, List.map_cons, mapTrL_eq f ks]
theorem mapTr_node (f : α → γ) (lv : List β) (v : Option α) (ks : List (Tr β α)) : mapTr f (.node lv v ks) = .node lv (v.map f) (ks.map (mapTr f)) := by rw [mapTr, mapTrL_eq]
theorem mapTr_lv (f : α → γ) (t : Tr β α) : (mapTr f t).lv = t.lv := by cases t; rw [mapTr_node]; rfl
theorem mapTr_kids (f : α → γ) (t : Tr β α) : (mapTr f t).kids = t.kids.map (mapTr f) := by cases t; rw [mapTr_node]; rfl
theorem mapTr_val (f : α → γ) (t : Tr β α) : (mapTr f t).val = t.val.map f := by cases t; rw [mapTr_node]; rfl

def mapE (f : α → γ) (l : List (List β × α)) : List (List β × γ) := l.map fun e => (e.1, f e.2)
theorem mapE_app (f : α → γ) (a b : List (List β × α)) : mapE f (a ++ b) = mapE f a ++ mapE f b := List.map_append ..
theorem mapE_pre (f : α → γ) (c : List β) (l : List (List β × α)) : mapE f (pre c l) = pre c (mapE f l) := by
  unfold mapE pre; rw [List.map_map, List.map_map]; rfl
theorem ents_map (f : α → γ) : ∀ t : Tr β α, ents (mapTr f t) = mapE f (ents t) := by
  refine Tr.ind (fun lv v ks ih => ?_)
  have hk : entsL (ks.map (mapTr f)) = mapE f (entsL ks) := by
    clear v
    induction ks with
    | nil => rfl
    | cons k ks ihk =>
      rw [List.map_cons, entsL_cons, entsL_cons, mapE_app, ih k (by simp), ihk (fun x hx => ih x (by simp [hx]))]
  rw [mapTr_node, ents, ents, hk, mapE_pre, mapE_app]
  cases v <;> rfl
theorem body_map (f : α → γ) (t : Tr β α) : body (mapTr f t) = mapE f (body t) := by
  have h := ents_map f (.node [] t.val t.kids)
  rw [ents_body, ents_body, mapTr_lv] at h
  simp only [Tr.lv_node, pre_nil] at h
  have h1 : body (mapTr f (Tr.node [] t.val t.kids)) = body (mapTr f t) := by unfold body; rw [mapTr_val, mapTr_kids, mapTr_val, mapTr_kids]; rfl
  rw [← h1, h]
  rfl
theorem mapTr_ok {lt : β → β → Bool} (f : α → γ) : ∀ {t : Tr β α}, Ok lt t → Ok lt (mapTr f t) := by
  intro t
  refine Tr.ind (P := fun t => Ok lt t → Ok lt (mapTr f t)) (fun lv v ks ih h => ?_) t
  rw [mapTr_node]
  cases h with
  | mk _ _ _ hv hs hne hk =>
    refine .mk _ _ _ (by simpa using hv) (List.pairwise_map.2 (hs.imp (fun {a b} hab => ?_))) (fun k hk' => ?_) (fun k hk' => ?_)
    · obtain ⟨x, xs, y, ys, e1, e2, hl⟩ := hab
      exact ⟨x, xs, y, ys, by rw [mapTr_lv, e1], by rw [mapTr_lv, e2], hl⟩
    · obtain ⟨k0, h0, rfl⟩ := List.mem_map.1 hk'
      rw [mapTr_lv]
      exact hne k0 h0
    · obtain ⟨k0, h0, rfl⟩ := List.mem_map.1 hk'
      exact ih k0 h0 (hk k0 h0)
theorem mapTr_forest {lt : β → β → Bool} (f : α → γ) {ks : List (Tr β α)} (h : Forest lt ks) : Forest lt (ks.map (mapTr f)) := by
  refine ⟨List.pairwise_map.2 (h.sorted.imp (fun {a b} hab => ?_)), fun k hk' => ?_, fun k hk' => ?_⟩
  · obtain ⟨x, xs, y, ys, e1, e2, hl⟩ := hab
    exact ⟨x, xs, y, ys, by rw [mapTr_lv, e1], by rw [mapTr_lv, e2], hl⟩
  · obtain ⟨k0, h0, rfl⟩ := List.mem_map.1 hk'
    rw [mapTr_lv]
    exact h.ne k0 h0
  · obtain ⟨k0, h0, rfl⟩ := List.mem_map.1 hk'
    exact mapTr_ok f (h.ok k0 h0)
end
end Go.Proofs.Tri

/- Plain: a tree, put together out of the list of what it holds: which items begin alike, and how far. No program in sight. -/
namespace Go.Proofs.Tri
section
variable {β α : Type}

/-- The paths of a list. -/
def keys (l : List (List β × α)) : List (List β) := l.map Prod.fst
theorem keys_app (a b : List (List β × α)) : keys (a ++ b) = keys a ++ keys b := List.map_append ..
theorem keys_length (l : List (List β × α)) : (keys l).length = l.length := List.length_map ..
theorem keys_pre (c : List β) (l : List (List β × α)) : keys (pre c l) = (keys l).map (c ++ ·) := by
  unfold keys pre
  rw [List.map_map, List.map_map]
  rfl
theorem keys_ents (k : Tr β α) : keys (ents k) = (keys (body k)).map (k.lv ++ ·) := by rw [ents_body, keys_pre]
theorem keys_drop (k : Tr β α) : (keys (ents k)).map (List.drop k.lv.length) = keys (body k) := by
  rw [keys_ents, List.map_map]
  conv => rhs; rw [← List.map_id (keys (body k))]
  refine List.map_congr_left (fun x _ => ?_)
  simp
theorem keys_body (t : Tr β α) : keys (body t) = (if t.val.isSome = true then [[]] else []) ++ keys (entsL t.kids) := by
  unfold body
  rw [keys_app]
  cases t.val <;> rfl
theorem keys_pos {e : List β} {ks : List (Tr β α)} (h : e ∈ keys (entsL ks)) (hne : ∀ k ∈ ks, k.lv ≠ []) : e ≠ [] := by
  obtain ⟨x, hx, rfl⟩ := List.mem_map.1 h
  obtain ⟨k, hk, he⟩ := entsL_mem.1 hx
  obtain ⟨r, h1, _⟩ := ents_mem he
  rw [h1]
  intro e
  exact hne k hk (List.append_eq_nil_iff.1 e).1
end
section
variable {β α : Type} [DecidableEq β] {lt : β → β → Bool}

/-- Have all of them a level more at a place, and the same as the first? -/
def alikeB (l : List (List β)) (j : Nat) : Bool := l.all fun x => decide (j < x.length) && decide (x[j]? = (l.headD [])[j]?)

theorem alike_of {l : List (List β)} {c : List β} (h : ∀ x ∈ l, ∃ r, x = c ++ r) {j : Nat} (hj : j < c.length) : alikeB l j = true := by
  unfold alikeB
  refine List.all_eq_true.2 (fun x hx => ?_)
  obtain ⟨r, rfl⟩ := h x hx
  cases l with
  | nil => simp at hx
  | cons y l =>
    obtain ⟨s, hs⟩ := h y (by simp)
    have h1 : (c ++ r)[j]? = c[j]? := List.getElem?_append_left hj
    have h2 : (c ++ s)[j]? = c[j]? := List.getElem?_append_left hj
    rw [List.headD_cons, hs, h1, h2]
    simp
    omega

theorem alike_lt {k : Tr β α} {j : Nat} (hj : j < k.lv.length) : alikeB (keys (ents k)) j = true := by
  refine alike_of (c := k.lv) (fun x hx => ?_) hj
  rw [keys_ents] at hx
  obtain ⟨r, _, rfl⟩ := List.mem_map.1 hx
  exact ⟨r, rfl⟩

theorem alike_eq (L : Lin lt) {k : Tr β α} (h : Ok lt k) : alikeB (keys (ents k)) k.lv.length = false := by
  cases ha : alikeB (keys (ents k)) k.lv.length with
  | false => rfl
  | true =>
    exfalso
    unfold alikeB at ha
    have hall := List.all_eq_true.1 ha
    rw [keys_ents] at hall
    rcases h.full with hv | hk
    · obtain ⟨a, e⟩ := Option.isSome_iff_exists.1 hv
      have h0 : ([] : List β) ∈ keys (body k) := by rw [keys_body, hv]; simp
      have := hall (k.lv ++ []) (List.mem_map.2 ⟨[], h0, rfl⟩)
      simp at this
    · have hf := h.forest
      match e : k.kids, hk with
      | a :: b :: ks, _ =>
        rw [e] at hf
        obtain ⟨x, xs, y, ys, ea, eb, hl⟩ := (List.pairwise_cons.1 hf.sorted).1 b (by simp)
        have na : ents a ≠ [] := (hf.ok a (by simp)).ents_ne
        have nb : ents b ≠ [] := (hf.ok b (by simp)).ents_ne
        obtain ⟨p, hp⟩ := List.exists_mem_of_ne_nil _ na
        obtain ⟨q, hq⟩ := List.exists_mem_of_ne_nil _ nb
        obtain ⟨r, hr⟩ := ents_head ea hp
        obtain ⟨s, hs⟩ := ents_head eb hq
        have m1 : p.1 ∈ keys (body k) := List.mem_map.2 ⟨p, by unfold body; rw [e, entsL_cons]; simp [hp], rfl⟩
        have m2 : q.1 ∈ keys (body k) := List.mem_map.2 ⟨q, by unfold body; rw [e, entsL_cons, entsL_cons]; simp [hq], rfl⟩
        have h1 := hall _ (List.mem_map.2 ⟨_, m1, rfl⟩)
        have h2 := hall _ (List.mem_map.2 ⟨_, m2, rfl⟩)
        rw [hr] at h1
        rw [hs] at h2
        simp only [Bool.and_eq_true, decide_eq_true_eq] at h1 h2
        have h3 := h1.2.trans h2.2.symm
        rw [List.getElem?_append_right (Nat.le_refl _), List.getElem?_append_right (Nat.le_refl _)] at h3
        simp at h3
        exact absurd h3 (L.ne hl)

omit [DecidableEq β] in
/-- The first edge's items begin with its first level. -/
theorem group_in {k : Tr β α} {ks : List (Tr β α)} {x : β} {xs : List β} (hk : k.lv = x :: xs) {i : Nat} {e : List β} (hi : i < (ents k).length) (h : (keys (entsL (k :: ks)))[i]? = some e) : ∃ r, e = x :: r := by
  rw [entsL_cons, keys_app, List.getElem?_append_left (by rw [keys_length]; exact hi)] at h
  obtain ⟨p, hp, rfl⟩ := List.mem_map.1 (List.mem_of_getElem? h)
  exact ents_head hk hp

omit [DecidableEq β] in
/-- The item behind them doesn't. -/
theorem group_out (L : Lin lt) {k : Tr β α} {ks : List (Tr β α)} (hf : Forest lt (k :: ks)) {x : β} {xs : List β} (hk : k.lv = x :: xs) {e : List β} (h : (keys (entsL (k :: ks)))[(ents k).length]? = some e) : ∃ y r, e = y :: r ∧ y ≠ x := by
  rw [entsL_cons, keys_app, List.getElem?_append_right (by rw [keys_length]; exact Nat.le_refl _)] at h
  obtain ⟨p, hp, rfl⟩ := List.mem_map.1 (List.mem_of_getElem? h)
  obtain ⟨k', hk', hp'⟩ := entsL_mem.1 hp
  obtain ⟨x', xs', y, ys, e1, e2, hl⟩ := (List.pairwise_cons.1 hf.sorted).1 k' hk'
  rw [hk] at e1
  injection e1 with e1
  subst e1
  obtain ⟨r, hr⟩ := ents_head e2 hp'
  exact ⟨y, r, hr, (L.ne hl).symm⟩

omit [DecidableEq β] in
theorem group_take {k : Tr β α} {ks : List (Tr β α)} : (keys (entsL (k :: ks))).take (ents k).length = keys (ents k) ∧ (keys (entsL (k :: ks))).drop (ents k).length = keys (entsL ks) := by
  rw [entsL_cons, keys_app]
  constructor
  · rw [List.take_append_of_le_length (by rw [keys_length]; exact Nat.le_refl _), List.take_of_length_le (by rw [keys_length]; exact Nat.le_refl _)]
  · rw [List.drop_append_of_le_length (by rw [keys_length]; exact Nat.le_refl _), List.drop_of_length_le (by rw [keys_length]; exact Nat.le_refl _), List.nil_append]
end
end Go.Proofs.Tri

/- Plain: where a key stands, or would, in a list in order. No program in sight. -/
namespace Go.Proofs.Tri
section
variable {κ α : Type} [DecidableEq κ] {lt : κ → κ → Bool}

/-- How many lie ahead of a key. -/
def spot (lt : κ → κ → Bool) (p : κ) : List (κ × α) → Nat
  | [] => 0
  | e :: l => if lt e.1 p = true then spot lt p l + 1 else 0

omit [DecidableEq κ] in
theorem spot_le (p : κ) : ∀ l : List (κ × α), spot lt p l ≤ l.length
  | [] => Nat.le_refl _
  | e :: l => by
    rw [spot, List.length_cons]
    have := spot_le p l
    split <;> omega
omit [DecidableEq κ] in
theorem spot_ahead {p : κ} : ∀ {l : List (κ × α)} {i : Nat} {e : κ × α}, i < spot lt p l → l[i]? = some e → lt e.1 p = true
  | [], i, e, h, _ => by simp [spot] at h
  | x :: l, 0, e, h, h2 => by
    injection h2 with h2
    subst h2
    rw [spot] at h
    split at h
    · assumption
    · omega
  | x :: l, i + 1, e, h, h2 => by
    rw [spot] at h
    split at h
    · exact spot_ahead (l := l) (by omega) h2
    · omega
omit [DecidableEq κ] in
theorem spot_stop {p : κ} : ∀ {l : List (κ × α)} {e : κ × α}, l[spot lt p l]? = some e → lt e.1 p = false
  | [], e, h => by simp [spot] at h
  | x :: l, e, h => by
    rw [spot] at h
    split at h
    · exact spot_stop (l := l) h
    · rename_i hx
      injection h with h
      subst h
      simpa using hx
theorem get_spot (L : Lin lt) {p : κ} : ∀ {l : List (κ × α)}, Sorted lt l → get p l = match l[spot lt p l]? with | some e => if e.1 = p then some e.2 else none | none => none
  | [], _ => rfl
  | x :: l, hs => by
    obtain ⟨h1, h2⟩ := List.pairwise_cons.1 hs
    rw [get, spot]
    by_cases e : x.1 = p
    · rw [if_pos e, if_neg (by rw [e, L.irr]; simp)]
      simp [e]
    · rw [if_neg e]
      cases hl : lt x.1 p with
      | true =>
        simp only [if_true, List.getElem?_cons_succ]
        exact get_spot L h2
      | false =>
        simp only [Bool.false_eq_true, if_false, List.getElem?_cons_zero, if_neg e]
        refine get_none.2 (fun y hy e2 => ?_)
        have := h1 y hy
        rw [e2, hl] at this
        exact absurd this (by simp)
theorem ins_spot (L : Lin lt) {p : κ} {a : α} : ∀ {l : List (κ × α)}, Sorted lt l → ins lt p a l = l.take (spot lt p l) ++ (p, a) :: l.drop (spot lt p l + if (get p l).isSome = true then 1 else 0)
  | [], _ => rfl
  | x :: l, hs => by
    obtain ⟨h1, h2⟩ := List.pairwise_cons.1 hs
    rw [ins, get, spot]
    by_cases e : x.1 = p
    · rw [if_pos e, if_pos e, if_neg (by rw [e, L.irr]; simp)]
      simp
    · rw [if_neg e, if_neg e]
      cases hl : lt x.1 p with
      | true =>
        rw [L.anti hl]
        simp only [if_true, Bool.false_eq_true, if_false, List.take_succ_cons, List.cons_append, Nat.add_right_comm _ 1, List.drop_succ_cons]
        rw [ins_spot L h2]
      | false =>
        have h3 : lt p x.1 = true := by
          cases h : lt p x.1 with
          | true => rfl
          | false => exact absurd (L.tri _ _ hl h) e
        have h4 : get p l = none := get_none.2 (fun y hy e2 => by
          have := h1 y hy
          rw [e2, hl] at this
          exact absurd this (by simp))
        rw [h3, h4]
        simp
theorem era_spot (L : Lin lt) {p : κ} : ∀ {l : List (κ × α)}, Sorted lt l → (get p l).isSome = true → era p l = l.take (spot lt p l) ++ l.drop (spot lt p l + 1)
  | [], _, h => by simp [get] at h
  | x :: l, hs, h => by
    obtain ⟨h1, h2⟩ := List.pairwise_cons.1 hs
    rw [get] at h
    rw [spot]
    by_cases e : x.1 = p
    · rw [if_neg (by rw [e, L.irr]; simp)]
      have : era p l = l := era_none (fun y hy e2 => by have := h1 y hy; rw [e2, e, L.irr] at this; exact absurd this (by simp))
      have h3 : era p (x :: l) = era p l := by unfold era; rw [List.filter_cons]; simp [e]
      rw [h3, this]
      rfl
    · rw [if_neg e] at h
      have hl : lt x.1 p = true := by
        obtain ⟨a, ha⟩ := Option.isSome_iff_exists.1 h
        exact h1 _ (get_mem ha)
      rw [if_pos hl]
      have := era_spot L h2 h
      have h3 : era p (x :: l) = x :: era p l := by unfold era; rw [List.filter_cons]; simp [e]
      rw [h3, this]
      rfl
end
end Go.Proofs.Tri
