/- Plain law: what a filter matches, when a level of it, or of the topic, is another one. No program in sight. -/
import Derived.Test.YtmjpnpnmhacknaaLwP
namespace Go.Proofs.Ytmjpnpnmhacknaa
open Go.Proofs.Tp

def plusT : ByteArray := ⟨#[43]⟩
def hashT : ByteArray := ⟨#[35]⟩

theorem eq_hash {x : ByteArray} : x.data.toList = [35] ↔ x = hashT := ⟨fun h => ba_ext h, fun h => by rw [h]; rfl⟩
theorem eq_plus {x : ByteArray} : x.data.toList = [43] ↔ x = plusT := ⟨fun h => ba_ext h, fun h => by rw [h]; rfl⟩

theorem chkF_iff {s : ByteArray} : chkF s = 0 ↔ s.size ≠ 0 ∧ isText s = true ∧ badLv (levels s) = false := by
  refine ⟨chkF_zero, fun ⟨h1, h2, h3⟩ => ?_⟩
  unfold chkF; rw [textE_ok' h1 h2, if_pos rfl, h3]; rfl
where
  textE_ok' {s : ByteArray} (h : s.size ≠ 0) (h2 : isText s = true) : textE s = 0 := by unfold textE; rw [if_neg h, if_pos h2]

theorem isText_joinT (L : List ByteArray) (h : L ≠ []) : isText (joinT L) = true ↔ (joinT L).size ≤ 65535 ∧ ∀ x, x ∈ L → utf [] x.data.toList = true := by
  unfold isText
  rw [Bool.and_eq_true, decide_eq_true_eq, joinT_data, utf_levels _ (fun e => h (List.map_eq_nil_iff.1 e)), List.all_eq_true]
  constructor
  · rintro ⟨h1, h2⟩; exact ⟨h1, fun x hx => h2 _ (List.mem_map_of_mem hx)⟩
  · rintro ⟨h1, h2⟩
    refine ⟨h1, fun y hy => ?_⟩
    obtain ⟨x, hx, rfl⟩ := List.mem_map.1 hy
    exact h2 x hx

theorem utf_level {s x : ByteArray} (h : isText s = true) (hx : x ∈ levels s) : utf [] x.data.toList = true := by
  have := isText_level h hx
  unfold isText at this; rw [Bool.and_eq_true] at this; exact this.2

theorem size_set (L : List ByteArray) (i : Nat) (x : ByteArray) : (joinT (L.set i x)).size ≤ (joinT L).size + x.size := by
  rw [size_eq, size_eq, size_eq x, joinT_data, joinT_data]
  induction L generalizing i with
  | nil => simp
  | cons y r ih =>
    cases r with
    | nil =>
      cases i with
      | zero => simp [Lib.join_one]
      | succ i => simp [Lib.join_one]
    | cons z r =>
      cases i with
      | zero => simp only [List.set_cons_zero, List.map_cons]; rw [Lib.join_cons, Lib.join_cons]; simp only [List.length_append]; omega
      | succ i =>
        have := ih i
        cases i with
        | zero =>
          simp only [List.set_cons_succ, List.set_cons_zero, List.map_cons] at this ⊢
          rw [Lib.join_cons, Lib.join_cons] at this ⊢
          simp only [Lib.joinTail, List.map_cons, List.flatten_cons, List.length_append, List.length_cons, List.length_nil] at this ⊢
          omega
        | succ i =>
          simp only [List.set_cons_succ, List.map_cons] at this ⊢
          rw [Lib.join_cons, Lib.join_cons] at this ⊢
          simp only [Lib.joinTail, List.map_cons, List.flatten_cons, List.length_append, List.length_cons, List.length_nil] at this ⊢
          omega

theorem mem_set {L : List ByteArray} {i : Nat} {x y : ByteArray} (h : y ∈ L.set i x) : y ∈ L ∨ y = x := List.mem_or_eq_of_mem_set h

theorem set_ne {L : List ByteArray} {i : Nat} {x : ByteArray} (h : L ≠ []) : L.set i x ≠ [] := by
  intro e; exact h ((List.set_eq_nil_iff _ _).1 e)

/-! ### Another level in the topic -/

theorem goes_swap : ∀ (F T : List ByteArray) (i : Nat) (f x y : ByteArray), F[i]? = some f → T[i]? = some x → f ≠ x → f ≠ y → goesL F T = goesL F (T.set i y)
  | [], _, _, _, _, _, h, _, _, _ => by simp at h
  | _ :: _, [], _, _, _, _, _, h, _, _ => by simp at h
  | g :: F, z :: T, 0, f, x, y, h1, h2, h3, h4 => by
    simp only [List.getElem?_cons_zero, Option.some.injEq] at h1 h2
    subst h1 h2
    rw [List.set_cons_zero]
    by_cases h : g.data.toList = [35]
    · rw [goesL_hash h, goesL_hash h]
    · by_cases h5 : g.data.toList = [43]
      · rw [goesL_on h (.inl h5), goesL_on h (.inl h5)]
      · rw [goesL_off h h5 h3, goesL_off h h5 h4]
  | g :: F, z :: T, i + 1, f, x, y, h1, h2, h3, h4 => by
    simp only [List.getElem?_cons_succ] at h1 h2
    rw [List.set_cons_succ]
    by_cases h : g.data.toList = [35]
    · rw [goesL_hash h, goesL_hash h]
    · by_cases h5 : g.data.toList = [43] ∨ g = z
      · rw [goesL_on h h5, goesL_on h h5]; exact goes_swap F T i f x y h1 h2 h3 h4
      · rw [goesL_off h (fun e => h5 (.inl e)) (fun e => h5 (.inr e)), goesL_off h (fun e => h5 (.inl e)) (fun e => h5 (.inr e))]

theorem matchT_goes {f t : ByteArray} (h1 : shared f = none) (h2 : chkF f = 0) (h3 : chk t = 0) : matchT f t =
    if t.data.toList.head? = some 36 ∧ ((levels f).head?.map (·.data.toList) = some [43] ∨ (levels f).head?.map (·.data.toList) = some [35]) then false else goesL (levels f) (levels t) := by
  unfold matchT
  rw [if_neg (by rw [h1]; rintro (h | h | h); exact absurd h (by simp); exact h h2; exact h h3)]

theorem matchT_no {f t : ByteArray} (h : (shared f).isSome ∨ chkF f ≠ 0 ∨ chk t ≠ 0) : matchT f t = false := by unfold matchT; rw [if_pos h]

theorem match_swap {f t level fi ti : ByteArray} {i : Nat} (hT : (levels t)[i]? = some ti) (hF : (levels f)[i]? = some fi) (h1 : fi ≠ ti) (h2 : fi ≠ level) (hl : (levels level).length = 1)
    (ht : chk t = 0) (hu : chk (joinT ((levels t).set i level)) = 0) (h36 : (joinT ((levels t).set i level)).data.toList.head? = some 36 ↔ t.data.toList.head? = some 36) :
    matchT f t = matchT f (joinT ((levels t).set i level)) := by
  have hlv : levels (joinT ((levels t).set i level)) = (levels t).set i level := by
    refine levels_joinT _ (set_ne (fun e => by rw [e] at hT; simp at hT)) (fun y hy => ?_)
    rcases mem_set hy with hy | rfl
    · exact level_noslash hy
    · exact level_noslash (s := y) (by rw [levels_one hl]; simp)
  by_cases hp : (shared f).isSome ∨ chkF f ≠ 0
  · rw [matchT_no (hp.elim .inl (fun h => .inr (.inl h))), matchT_no (hp.elim .inl (fun h => .inr (.inl h)))]
  · have hs : shared f = none := by
      cases h : shared f with
      | none => rfl
      | some p => exact absurd (.inl (by rw [h]; rfl)) hp
    have hc : chkF f = 0 := Classical.byContradiction fun h => hp (.inr h)
    rw [matchT_goes hs hc ht, matchT_goes hs hc hu, hlv, ← goes_swap _ _ _ _ _ _ hF hT h1 h2]
    by_cases h : t.data.toList.head? = some 36
    · rw [h, h36.2 h]
    · by_cases h' : (levels f).head?.map (·.data.toList) = some [43] ∨ (levels f).head?.map (·.data.toList) = some [35]
      · rw [if_neg (fun x => h x.1), if_neg (fun x => h (h36.1 x.1))]
      · rw [if_neg (fun x => h' x.2), if_neg (fun x => h' x.2)]

end Go.Proofs.Ytmjpnpnmhacknaa
