/- Plain law: an order on texts; filters put together anew. No program in sight. -/
import Derived.Test.YtmjpnpnmhacknaaLwA
namespace Go.Proofs.Ytmjpnpnmhacknaa
open Go.Proofs.Tp

/-! ### The order -/

theorem cmpB_rev (x y : ByteArray) : cmpB y x = - cmpB x y := by
  unfold cmpB
  by_cases h1 : x.data.toList < y.data.toList
  · rw [if_pos h1, if_neg (List.lt_asymm h1), if_pos h1]; rfl
  · by_cases h2 : y.data.toList < x.data.toList
    · rw [if_pos h2, if_neg h1, if_pos h2]
    · rw [if_neg h1, if_neg h2, if_neg h2, if_neg h1]; rfl

theorem cmpB_zero (x y : ByteArray) : cmpB x y = 0 ↔ x = y := by
  unfold cmpB
  constructor
  · intro h
    by_cases h1 : x.data.toList < y.data.toList
    · rw [if_pos h1] at h; cases h
    · by_cases h2 : y.data.toList < x.data.toList
      · rw [if_neg h1, if_pos h2] at h; cases h
      · exact ba_ext (List.le_antisymm (List.not_lt.1 h2) (List.not_lt.1 h1))
  · rintro rfl
    rw [if_neg (List.lt_irrefl _), if_neg (List.lt_irrefl _)]

theorem cmpB_trans {x y z : ByteArray} (h1 : cmpB x y = -1) (h2 : cmpB y z = -1) : cmpB x z = -1 := by
  have k : ∀ {a b : ByteArray}, cmpB a b = -1 ↔ a.data.toList < b.data.toList := by
    intro a b
    unfold cmpB
    constructor
    · intro h
      by_cases h1 : a.data.toList < b.data.toList
      · exact h1
      · rw [if_neg h1] at h; split at h <;> cases h
    · intro h; rw [if_pos h]
  exact k.2 (List.lt_trans (k.1 h1) (k.1 h2))

theorem cmpL_cons (x y : ByteArray) (a b : List ByteArray) : cmpL (x :: a) (y :: b) = if cmpB x y = 0 then cmpL a b else cmpB x y := by rw [cmpL]

theorem cmpL_cases : ∀ (a b : List ByteArray), cmpL a b = -1 ∨ cmpL a b = 0 ∨ cmpL a b = 1
  | [], [] => .inr (.inl rfl)
  | [], _ :: _ => .inl rfl
  | _ :: _, [] => .inr (.inr rfl)
  | x :: a, y :: b => by
    rw [cmpL_cons]; split
    · exact cmpL_cases a b
    · exact cmpB_cases x y

theorem cmpL_rev : ∀ (a b : List ByteArray), cmpL b a = - cmpL a b
  | [], [] => rfl
  | [], _ :: _ => rfl
  | _ :: _, [] => rfl
  | x :: a, y :: b => by
    rw [cmpL_cons, cmpL_cons, cmpB_rev x y]
    by_cases h : cmpB x y = 0
    · rw [if_pos h, if_pos (by omega), cmpL_rev a b]
    · rw [if_neg h, if_neg (by omega)]

theorem cmpL_zero : ∀ (a b : List ByteArray), cmpL a b = 0 ↔ a = b
  | [], [] => ⟨fun _ => rfl, fun _ => rfl⟩
  | [], _ :: _ => ⟨fun h => (by cases h), fun h => (by cases h)⟩
  | _ :: _, [] => ⟨fun h => (by cases h), fun h => (by cases h)⟩
  | x :: a, y :: b => by
    rw [cmpL_cons]
    by_cases h : cmpB x y = 0
    · rw [if_pos h, cmpL_zero a b, (cmpB_zero x y).1 h]; simp
    · rw [if_neg h]
      constructor
      · intro e; exact absurd e h
      · intro e; injection e with e1 _; exact absurd ((cmpB_zero x y).2 e1) h

theorem cmpL_trans : ∀ (a b c : List ByteArray), cmpL a b ≤ 0 → cmpL b c ≤ 0 → cmpL a c ≤ 0
  | [], _, [], _, _ => Int.le_refl _
  | [], _, _ :: _, _, _ => by show (-1 : Int) ≤ 0; omega
  | x :: a, [], _, h, _ => by have : cmpL (x :: a) [] = 1 := rfl; omega
  | x :: a, y :: b, [], _, h => by have : cmpL (y :: b) [] = 1 := rfl; omega
  | x :: a, y :: b, z :: c, h1, h2 => by
    rw [cmpL_cons] at h1 h2 ⊢
    have cxy := cmpB_cases x y
    have cyz := cmpB_cases y z
    by_cases e1 : cmpB x y = 0
    · rw [if_pos e1] at h1
      have := (cmpB_zero x y).1 e1; subst this
      by_cases e2 : cmpB x z = 0
      · rw [if_pos e2] at h2 ⊢; exact cmpL_trans a b c h1 h2
      · rw [if_neg e2] at h2 ⊢; exact h2
    · rw [if_neg e1] at h1
      by_cases e2 : cmpB y z = 0
      · have := (cmpB_zero y z).1 e2; subst this
        rw [if_neg e1]; exact h1
      · rw [if_neg e2] at h2
        have := cmpB_trans (x := x) (y := y) (z := z) (by omega) (by omega)
        rw [this, if_neg (by decide)]; decide

theorem cmpL_more : ∀ (a m : List ByteArray), m ≠ [] → cmpL a (a ++ m) = -1
  | [], m, h => by cases m with | nil => exact absurd rfl h | cons _ _ => rfl
  | x :: a, m, h => by
    rw [List.cons_append, cmpL_cons, if_pos ((cmpB_zero x x).2 rfl)]
    exact cmpL_more a m h

theorem cmpL_between : ∀ (a b m : List ByteArray), cmpL a b = -1 → cmpL b (a ++ m) = -1 → preL a b = true
  | [], _, _, _, _ => rfl
  | x :: a, [], _, h, _ => by have : cmpL (x :: a) [] = 1 := rfl; omega
  | x :: a, y :: b, m, h1, h2 => by
    rw [List.cons_append] at h2
    rw [cmpL_cons] at h1 h2
    rw [cmpB_rev x y] at h2
    by_cases e : cmpB x y = 0
    · rw [if_pos e] at h1
      rw [if_pos (by omega)] at h2
      show (decide (x = y) && preL a b) = true
      rw [decide_eq_true ((cmpB_zero x y).1 e), cmpL_between a b m h1 h2]; rfl
    · rw [if_neg e] at h1
      rw [if_neg (by omega)] at h2
      omega

/-! ### Levels and texts -/

theorem levels_map (s : ByteArray) : levels s = (split s.data.toList).map mkB := by
  rw [← levels_split, List.map_map]
  have : ∀ x : ByteArray, (mkB ∘ (·.data.toList)) x = x := fun x => rfl
  rw [List.map_congr_left (g := id) (fun x _ => this x), List.map_id]

theorem levels_inj {a b : ByteArray} (h : levels a = levels b) : a = b := by
  have := joinT_levels a
  rw [h, joinT_levels] at this
  exact this.symm

theorem app_data (a b : ByteArray) : (a ++ b).data.toList = a.data.toList ++ b.data.toList := by
  rw [ByteArray.data_append, Array.toList_append]

/-- Two texts with a slash between them. -/
theorem levels_cut (a b : ByteArray) : levels (a ++ ⟨#[47]⟩ ++ b) = levels a ++ levels b := by
  rw [levels_map, levels_map, levels_map, app_data, app_data, List.append_assoc]
  show (split (a.data.toList ++ 47 :: b.data.toList)).map mkB = _
  rw [split_cut, List.map_append]

theorem level_noslash {s x : ByteArray} (h : x ∈ levels s) : 47 ∉ x.data.toList :=
  split_noslash _ _ (by rw [← levels_split]; exact List.mem_map_of_mem h)

theorem levels_plain {x : ByteArray} (h : 47 ∉ x.data.toList) : levels x = [x] := by
  rw [levels_map, split_plain _ h]; rfl

theorem levels_joinT (L : List ByteArray) (h : L ≠ []) (hx : ∀ x, x ∈ L → 47 ∉ x.data.toList) : levels (joinT L) = L := by
  rw [levels_map, joinT_data, split_join]
  · rw [List.map_map]
    have : ∀ x : ByteArray, (mkB ∘ (·.data.toList)) x = x := fun x => rfl
    rw [List.map_congr_left (g := id) (fun x _ => this x), List.map_id]
  · intro e; exact h (List.map_eq_nil_iff.1 e)
  · intro y hy
    obtain ⟨x, h1, rfl⟩ := List.mem_map.1 hy
    exact hx x h1

theorem levels_one {x : ByteArray} (h : (levels x).length = 1) : levels x = [x] := by
  have hj := joinT_levels x
  match hL : levels x, h with
  | [y], _ =>
    rw [hL] at hj
    have : joinT [y] = y := by unfold joinT; rw [List.map_cons, List.map_nil, Lib.join_one]
    rw [← hj, this]

/-! ### Shared filters -/

def shareT : ByteArray := ⟨#[36, 115, 104, 97, 114, 101, 47]⟩
def slashT : ByteArray := ⟨#[47]⟩

theorem ba_assoc (a b c : ByteArray) : a ++ b ++ c = a ++ (b ++ c) := ba_ext (by simp only [app_data, List.append_assoc])

theorem joinT_cons (x y : ByteArray) (r : List ByteArray) : joinT (x :: y :: r) = x ++ slashT ++ joinT (y :: r) := by
  apply ba_ext
  rw [app_data, app_data, joinT_data, joinT_data, List.map_cons, List.map_cons, Lib.join_cons, Lib.join_cons]
  simp [Lib.joinTail, slashT]

/-- What a shared filter is put together from. -/
theorem shared_parts {f g i : ByteArray} (h : shared f = some (g, i)) :
    f = shareT ++ g ++ slashT ++ i ∧ g.size ≠ 0 ∧ (levels g).length = 1 ∧ chkF f = 0 ∧ chkF i = 0 ∧ 3 ≤ (levels f).length ∧ g.size ≤ f.size ∧ i.size ≤ f.size ∧
    ∃ x r, levels i = x :: r ∧ i = joinT (x :: r) := by
  unfold shared at h
  match hL : levels f with
  | [] => rw [hL] at h; cases h
  | [a] => rw [hL] at h; cases h
  | [a, g'] => rw [hL] at h; cases h
  | a :: g' :: x :: r =>
    rw [hL] at h
    simp only at h
    by_cases hc : a.data.toList = [36, 115, 104, 97, 114, 101] ∧ chk g' = 0 ∧ chkF (joinT (x :: r)) = 0 ∧ chkF f = 0
    · rw [if_pos hc] at h
      injection h with h
      injection h with h1 h2
      subst h1 h2
      obtain ⟨c1, c2, c3, c4⟩ := hc
      have hsz := inner_size f a g' x r hL
      have hns : ∀ y, y ∈ levels f → 47 ∉ y.data.toList := fun y hy => level_noslash hy
      rw [hL] at hns
      have hli : levels (joinT (x :: r)) = x :: r := levels_joinT _ (by simp) (fun y hy => hns y (by simp at hy ⊢; exact .inr (.inr hy)))
      refine ⟨?_, (chk_zero.1 c2).1, by rw [levels_plain (hns g' (by simp))]; rfl, c4, c3, by simp, by omega, by omega, x, r, hli, rfl⟩
      have hj := joinT_levels f
      rw [hL, joinT_cons, joinT_cons] at hj
      rw [← hj]
      have ha : a ++ slashT = shareT := ba_ext (by rw [app_data, c1]; rfl)
      rw [← ha]
      simp only [ba_assoc]
    · rw [if_neg hc] at h; cases h

/-- Another group in its place. -/
theorem shared_other {i group x : ByteArray} {r : List ByteArray} (hi : levels i = x :: r) (hj : i = joinT (x :: r)) (hci : chkF i = 0) (h1 : (levels group).length = 1) (h2 : chk group = 0)
    (h3 : chkF (shareT ++ group ++ slashT ++ i) = 0) : shared (shareT ++ group ++ slashT ++ i) = some (group, i) := by
  have hs : shareT = (⟨#[36, 115, 104, 97, 114, 101]⟩ : ByteArray) ++ slashT := ba_ext (by rw [app_data]; rfl)
  have hL : levels (shareT ++ group ++ slashT ++ i) = ⟨#[36, 115, 104, 97, 114, 101]⟩ :: group :: x :: r := by
    rw [show shareT ++ group ++ slashT ++ i = ⟨#[36, 115, 104, 97, 114, 101]⟩ ++ ⟨#[47]⟩ ++ (group ++ ⟨#[47]⟩ ++ i) from by rw [hs]; simp only [ba_assoc]; rfl]
    rw [levels_cut, levels_cut, levels_one h1, hi, levels_plain (by decide)]
    rfl
  unfold shared
  rw [hL]
  simp only
  rw [if_pos ⟨trivial, h2, by rw [← hj]; exact hci, h3⟩, ← hj]

theorem matchT_shared {f t : ByteArray} {p : ByteArray × ByteArray} (h : shared f = some p) : matchT f t = false := by
  unfold matchT; rw [if_pos (.inl (by rw [h]; rfl))]

theorem sharedV_form (s : ByteArray) : ∃ x y b, sharedV s = .tuple #[.string x, .string y, .bool b] := by
  unfold sharedV
  cases shared s with
  | none => exact ⟨_, _, _, rfl⟩
  | some p => exact ⟨_, _, _, rfl⟩

end Go.Proofs.Ytmjpnpnmhacknaa
