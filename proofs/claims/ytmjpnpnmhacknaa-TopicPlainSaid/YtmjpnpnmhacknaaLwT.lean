/- Plain law: TopicPlain's three parts. No program in sight. -/
import Derived.Test.YtmjpnpnmhacknaaLwQ
namespace Go.Proofs.Ytmjpnpnmhacknaa
open Go.Proofs.Tp

theorem sign_app (a b : ByteArray) : sign (a ++ b) = (sign a || sign b) := by
  unfold sign signL; rw [app_data, List.any_append]

theorem joinT_one (x : ByteArray) : joinT [x] = x := by
  apply ba_ext
  rw [joinT_data, List.map_cons, List.map_nil, Lib.join_one]

theorem sign_joinT : ∀ L : List ByteArray, L ≠ [] → sign (joinT L) = L.any sign
  | [], h => absurd rfl h
  | [x], _ => by rw [joinT_one]; simp
  | x :: y :: r, _ => by
    rw [joinT_cons, sign_app, sign_app, sign_joinT (y :: r) (by simp), List.any_cons (a := x)]
    have : sign slashT = false := by decide +kernel
    rw [this, Bool.or_false]

theorem levels_no (s : ByteArray) : levels s ≠ [] := by
  intro e
  have : (levels s).length ≠ 0 := by simp [levels]
  rw [e] at this; exact this rfl

theorem sign_level {s x : ByteArray} (h : sign s = false) (hx : x ∈ levels s) : sign x = false := by
  rw [← joinT_levels s, sign_joinT _ (levels_no s)] at h
  cases hs : sign x with
  | false => rfl
  | true => exact absurd (List.any_eq_true.2 ⟨x, hx, hs⟩) (by rw [h]; simp)

theorem sign_plus {x : ByteArray} (h : sign x = false) : x.data.toList ≠ [43] := by
  intro e; unfold sign at h; rw [e] at h; exact absurd h (by decide)
theorem sign_hash {x : ByteArray} (h : sign x = false) : x.data.toList ≠ [35] := by
  intro e; unfold sign at h; rw [e] at h; exact absurd h (by decide)

theorem badLv_plain : ∀ L : List ByteArray, (∀ x, x ∈ L → sign x = false) → badLv L = false
  | [], _ => rfl
  | x :: r, h => by
    have hx := h x (by simp)
    rw [badLv_keep x r (fun e => by rw [hx] at e; cases e) (fun e => absurd e (sign_hash hx))]
    exact badLv_plain r fun y hy => h y (by simp [hy])

theorem goes_plain : ∀ (F T : List ByteArray), (∀ x, x ∈ F → sign x = false) → goesL F T = decide (F = T)
  | [], [], _ => rfl
  | [], _ :: _, _ => rfl
  | f :: F, [], h => by
    unfold goesL
    rw [if_neg (sign_hash (h f (by simp)))]; simp
  | f :: F, x :: T, h => by
    have hf := h f (by simp)
    rw [goesL, if_neg (sign_hash hf)]
    have ih := goes_plain F T fun y hy => h y (by simp [hy])
    by_cases e : f = x
    · rw [if_pos (.inr e), ih]; simp [e]
    · rw [if_neg (fun h' => h'.elim (sign_plus hf) e)]; simp [e]

/-- A filter without a sign. -/
theorem plain_chkF {t : ByteArray} (h : chk t = 0) : chkF t = 0 := by
  obtain ⟨h1, h2, h3⟩ := chk_zero.1 h
  exact chkF_iff.2 ⟨h1, h2, badLv_plain _ fun x hx => sign_level h3 hx⟩

theorem plain_match {t u : ByteArray} (h : chk t = 0) (hs : shared t = none) : matchT t u = (decide (t = u) && decide (chk u = 0)) := by
  obtain ⟨h1, h2, h3⟩ := chk_zero.1 h
  by_cases hu : chk u = 0
  · rw [matchT_goes hs (plain_chkF h) hu, goes_plain _ _ fun x hx => sign_level h3 hx, decide_eq_true hu, Bool.and_true]
    have hd : ¬ ((levels t).head?.map (·.data.toList) = some [43] ∨ (levels t).head?.map (·.data.toList) = some [35]) := by
      cases hl : levels t with
      | nil => exact absurd hl (levels_no t)
      | cons x r =>
        have hx := sign_level h3 (show x ∈ levels t by rw [hl]; simp)
        rintro (e | e)
        · exact sign_plus hx (Option.some.inj e)
        · exact sign_hash hx (Option.some.inj e)
    rw [if_neg (fun e => hd e.2)]
    by_cases e : t = u
    · rw [e]; simp
    · rw [decide_eq_false e, decide_eq_false (fun e' => e (levels_inj e'))]
  · rw [matchT_no (.inr (.inr hu)), decide_eq_false hu, Bool.and_false]

/-! ### A plus in a level's place -/

theorem goes_put : ∀ (F T : List ByteArray) (i : Nat) (x : ByteArray), F[i]? = some x → x ≠ hashT → goesL F T = true → goesL (F.set i plusT) T = true
  | [], _, _, _, h, _, _ => by simp at h
  | f :: F, T, 0, x, h1, h2, h3 => by
    simp only [List.getElem?_cons_zero, Option.some.injEq] at h1
    subst h1
    rw [goesL.eq_def] at h3
    simp only at h3
    rw [if_neg (fun e => h2 (eq_hash.1 e))] at h3
    rw [List.set_cons_zero, goesL.eq_def]
    simp only
    rw [if_neg (by decide)]
    cases T with
    | nil => simp at h3
    | cons y T =>
      simp only at h3 ⊢
      rw [if_pos (.inl rfl)]
      by_cases e : f.data.toList = [43] ∨ f = y
      · rw [if_pos e] at h3; exact h3
      · rw [if_neg e] at h3; cases h3
  | f :: F, T, i + 1, x, h1, h2, h3 => by
    simp only [List.getElem?_cons_succ] at h1
    rw [List.set_cons_succ]
    rw [goesL.eq_def] at h3 ⊢
    simp only at h3 ⊢
    by_cases eh : f.data.toList = [35]
    · rw [if_pos eh]
    · rw [if_neg eh] at h3 ⊢
      cases T with
      | nil => simp at h3
      | cons y T =>
        simp only at h3 ⊢
        by_cases e : f.data.toList = [43] ∨ f = y
        · rw [if_pos e] at h3 ⊢; exact goes_put F T i x h1 h2 h3
        · rw [if_neg e] at h3; cases h3

theorem bad_put : ∀ (F : List ByteArray) (i : Nat), badLv F = false → badLv (F.set i plusT) = false
  | [], _, h => h
  | f :: F, 0, h => by
    rw [List.set_cons_zero, badLv_keep plusT F (fun _ => by decide) (fun e => absurd e (by decide))]
    rw [badLv_cons] at h
    simp only [Bool.or_eq_false_iff] at h
    exact h.2
  | f :: F, i + 1, h => by
    rw [badLv_cons] at h
    simp only [Bool.or_eq_false_iff] at h
    have he : (F.set i plusT).isEmpty = F.isEmpty := by cases F <;> cases i <;> rfl
    rw [List.set_cons_succ, badLv_cons, he, h.1.1, h.1.2, bad_put F i h.2]; rfl

theorem size_joinT_mem (L : List ByteArray) (x : ByteArray) (h : x ∈ L) : x.size ≤ (joinT L).size := by
  induction L with
  | nil => simp at h
  | cons y r ih =>
    cases r with
    | nil => rw [joinT_one]; simp at h; rw [h]; exact Nat.le_refl _
    | cons z r =>
      rw [joinT_cons, ByteArray.size_append, ByteArray.size_append]
      rcases List.mem_cons.1 h with rfl | h
      · omega
      · have := ih h; omega

theorem match_put {f t fi : ByteArray} {i : Nat} (hm : matchT f t = true) (hF : (levels f)[i]? = some fi) (h1 : fi ≠ hashT) (h2 : ¬ (i = 0 ∧ t.data.toList.head? = some 36)) (hsz : f.size ≤ 5000)
    (hs : shared (joinT ((levels f).set i plusT)) = none) : matchT (joinT ((levels f).set i plusT)) t = true := by
  have h0 : shared f = none := by
    cases h : shared f with
    | none => rfl
    | some p => rw [matchT_no (.inl (by rw [h]; rfl))] at hm; cases hm
  have hc : chkF f = 0 := Classical.byContradiction fun h => by rw [matchT_no (.inr (.inl h))] at hm; cases hm
  have ht : chk t = 0 := Classical.byContradiction fun h => by rw [matchT_no (.inr (.inr h))] at hm; cases hm
  obtain ⟨c1, c2, c3⟩ := chkF_iff.1 hc
  have hi : i < (levels f).length := by
    rcases Nat.lt_or_ge i (levels f).length with h | h
    · exact h
    · rw [List.getElem?_eq_none h] at hF; cases hF
  have hlv : levels (joinT ((levels f).set i plusT)) = (levels f).set i plusT := by
    refine levels_joinT _ (set_ne (levels_no f)) (fun y hy => ?_)
    rcases mem_set hy with hy | rfl
    · exact level_noslash hy
    · decide
  have hc' : chkF (joinT ((levels f).set i plusT)) = 0 := by
    refine chkF_iff.2 ⟨?_, ?_, ?_⟩
    · have := size_joinT_mem ((levels f).set i plusT) plusT (List.mem_set hi _)
      have h1 : plusT.size = 1 := rfl
      omega
    · rw [isText_joinT _ (set_ne (levels_no f))]
      refine ⟨?_, fun x hx => ?_⟩
      · have := size_set (levels f) i plusT
        rw [joinT_levels] at this
        have h1 : plusT.size = 1 := rfl
        omega
      · rcases mem_set hx with hx | rfl
        · exact utf_level c2 hx
        · decide +kernel
    · rw [hlv]; exact bad_put _ _ c3
  rw [matchT_goes h0 hc ht] at hm
  rw [matchT_goes hs hc' ht, hlv]
  by_cases hd : t.data.toList.head? = some 36 ∧ ((levels f).head?.map (·.data.toList) = some [43] ∨ (levels f).head?.map (·.data.toList) = some [35])
  · rw [if_pos hd] at hm; cases hm
  · rw [if_neg hd] at hm
    rw [if_neg, goes_put _ _ _ _ hF h1 hm]
    intro hd'
    refine hd ⟨hd'.1, ?_⟩
    have hi0 : i ≠ 0 := fun e => h2 ⟨e, hd'.1⟩
    have hh : ((levels f).set i plusT).head? = (levels f).head? := by
      cases hl : levels f with
      | nil => rfl
      | cons x r => cases i with
        | zero => exact absurd rfl hi0
        | succ i => rfl
    rw [← hh]; exact hd'.2

/-! ### The hash's two halves -/

theorem goes_hash : ∀ (F T : List ByteArray), (∀ x, x ∈ F → x ≠ hashT) → goesL (F ++ [hashT]) T = (goesL F T || goesL (F ++ [plusT, hashT]) T)
  | [], T, _ => by
    cases T with
    | nil => rfl
    | cons x T =>
      show goesL [hashT] (x :: T) = (goesL [] (x :: T) || goesL [plusT, hashT] (x :: T))
      have a1 : goesL [hashT] (x :: T) = true := by rw [goesL.eq_def]; simp only; rw [if_pos (by rfl)]
      have a2 : goesL [hashT] T = true := by rw [goesL.eq_def]; simp only; rw [if_pos (by rfl)]
      have a3 : goesL [plusT, hashT] (x :: T) = true := by rw [goesL.eq_def]; simp only; rw [if_neg (by decide), if_pos (.inl (by rfl)), a2]
      rw [a1, a3, Bool.or_true]
  | f :: F, T, h => by
    have hf : f.data.toList ≠ [35] := fun e => h f (by simp) (eq_hash.1 e)
    have ih := fun T => goes_hash F T fun y hy => h y (by simp [hy])
    rw [List.cons_append, List.cons_append, goesL.eq_def, goesL.eq_def (f :: F), goesL.eq_def (f :: (F ++ [plusT, hashT]))]
    simp only [if_neg hf]
    cases T with
    | nil => rfl
    | cons x T =>
      simp only
      by_cases e : f.data.toList = [43] ∨ f = x
      · simp only [if_pos e]; exact ih T
      · simp only [if_neg e]; rfl

theorem nohash : ∀ (F : List ByteArray), badLv F = false → (∀ z, F.getLast? = some z → z ≠ hashT) → ∀ x, x ∈ F → x ≠ hashT
  | [], _, _, x, hx => by simp at hx
  | [y], _, h2, x, hx => by
    simp at hx; subst hx; exact h2 x rfl
  | y :: z :: r, h1, h2, x, hx => by
    rw [badLv_cons] at h1
    simp only [Bool.or_eq_false_iff] at h1
    rcases List.mem_cons.1 hx with rfl | hx
    · intro e
      have := h1.1.2
      rw [e, decide_eq_true (show hashT.data.toList = [35] from rfl)] at this
      simp at this
    · exact nohash (z :: r) h1.2 (fun w hw => h2 w (by rw [List.getLast?_cons_cons]; exact hw)) x hx

theorem bad_app : ∀ (F R : List ByteArray), badLv F = false → (∀ x, x ∈ F → x ≠ hashT) → badLv (F ++ R) = badLv R
  | [], _, _, _ => rfl
  | f :: F, R, h1, h2 => by
    have hf : f.data.toList ≠ [35] := fun e => h2 f (by simp) (eq_hash.1 e)
    rw [badLv_cons] at h1
    simp only [Bool.or_eq_false_iff] at h1
    rw [List.cons_append, badLv_cons, h1.1.1, decide_eq_false hf, bad_app F R h1.2 fun y hy => h2 y (by simp [hy])]
    rfl

theorem hash_text (f : ByteArray) : f ++ ⟨#[47, 35]⟩ = f ++ ⟨#[47]⟩ ++ hashT := by rw [ba_assoc]; rfl
theorem plus_text (f : ByteArray) : f ++ ⟨#[47, 43, 47, 35]⟩ = f ++ ⟨#[47]⟩ ++ (plusT ++ ⟨#[47]⟩ ++ hashT) := by rw [ba_assoc]; rfl
theorem hash_levels (f : ByteArray) : levels (f ++ ⟨#[47, 35]⟩) = levels f ++ [hashT] := by
  rw [hash_text, levels_cut, levels_plain (x := hashT) (by decide)]
theorem plus_levels (f : ByteArray) : levels (f ++ ⟨#[47, 43, 47, 35]⟩) = levels f ++ [plusT, hashT] := by
  rw [plus_text, levels_cut, levels_cut, levels_plain (x := hashT) (by decide), levels_plain (x := plusT) (by decide)]; rfl

theorem hash_chkF {f g : ByteArray} {R : List ByteArray} (hc : chkF f = 0) (hn : ∀ x, x ∈ levels f → x ≠ hashT) (hg : levels g = levels f ++ R) (hR : R = [hashT] ∨ R = [plusT, hashT]) (hsz : g.size ≤ 65535) (hs0 : g.size ≠ 0) : chkF g = 0 := by
  obtain ⟨c1, c2, c3⟩ := chkF_iff.1 hc
  refine chkF_iff.2 ⟨hs0, ?_, ?_⟩
  · rw [← joinT_levels g, isText_joinT _ (levels_no g), joinT_levels]
    refine ⟨hsz, fun x hx => ?_⟩
    rw [hg] at hx
    rcases List.mem_append.1 hx with hx | hx
    · exact utf_level c2 hx
    · have : x = hashT ∨ x = plusT := by
        rcases hR with rfl | rfl
        · exact .inl (by simpa using hx)
        · rcases List.mem_cons.1 hx with h | h
          · exact .inr h
          · exact .inl (by simpa using h)
      rcases this with h | h
      · rw [h]; decide +kernel
      · rw [h]; decide +kernel
  · rw [hg, bad_app _ _ c3 hn]
    rcases hR with h | h
    · rw [h]; decide +kernel
    · rw [h]; decide +kernel

theorem match_hash {f t : ByteArray} (hc : chkF f = 0) (hl : ∀ z, (levels f).getLast? = some z → z ≠ hashT) (hsz : f.size ≤ 5000) (s1 : shared f = none) (s2 : shared (f ++ ⟨#[47, 35]⟩) = none)
    (s3 : shared (f ++ ⟨#[47, 43, 47, 35]⟩) = none) : matchT (f ++ ⟨#[47, 35]⟩) t = (matchT f t || matchT (f ++ ⟨#[47, 43, 47, 35]⟩) t) := by
  have hn := nohash _ (chkF_iff.1 hc).2.2 hl
  have z1 : (⟨#[47, 35]⟩ : ByteArray).size = 2 := rfl
  have z2 : (⟨#[47, 43, 47, 35]⟩ : ByteArray).size = 4 := rfl
  have c2 := hash_chkF hc hn (hash_levels f) (.inl rfl) (by rw [ByteArray.size_append]; omega) (by rw [ByteArray.size_append]; omega)
  have c3 := hash_chkF hc hn (plus_levels f) (.inr rfl) (by rw [ByteArray.size_append]; omega) (by rw [ByteArray.size_append]; omega)
  by_cases ht : chk t = 0
  · have hh : ∀ R, (levels f ++ R).head? = (levels f).head? := fun R => by
      cases hl : levels f with
      | nil => exact absurd hl (levels_no f)
      | cons x r => rfl
    rw [matchT_goes s1 hc ht, matchT_goes s2 c2 ht, matchT_goes s3 c3 ht, hash_levels, plus_levels, hh, hh]
    by_cases hd : t.data.toList.head? = some 36 ∧ ((levels f).head?.map (·.data.toList) = some [43] ∨ (levels f).head?.map (·.data.toList) = some [35])
    · rw [if_pos hd, if_pos hd, if_pos hd]; rfl
    · rw [if_neg hd, if_neg hd, if_neg hd]; exact goes_hash _ _ hn
  · rw [matchT_no (.inr (.inr ht)), matchT_no (.inr (.inr ht)), matchT_no (.inr (.inr ht))]; rfl

end Go.Proofs.Ytmjpnpnmhacknaa
