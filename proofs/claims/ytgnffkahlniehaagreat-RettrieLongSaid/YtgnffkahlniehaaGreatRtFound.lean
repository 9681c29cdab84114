/- Plain: what Find finds is what a list would tell, each topic asked by topic.Match. No code walked. -/
import Derived.Test.YtgnffkahlniehaaGreatRtFindP
import Derived.Test.YtgnffkahlniehaaGreatRtKeyed
namespace Go.Proofs.YtgnffkahlniehaaGreat
open Go Go.RowKit Go.Proofs.Gs Go.Proofs.Tri Go.Proofs.Rt Go.Proofs.Tp

theorem goes_goesL : ∀ (f t : List ByteArray), goes hashB plusB f t = goesL f t
  | [], t => by rw [goes, goesL]
  | x :: xs, [] => by
    rw [goes, goesL]
    unfold hashB
    by_cases h : x.data.toList = [35] <;> simp [h]
  | x :: xs, s :: ts => by
    rw [goes, goesL, goes_goesL xs ts]
    unfold hashB plusB
    by_cases h : x.data.toList = [35]
    · simp [h]
    · simp only [h, decide_false, Bool.false_eq_true, if_false]
      by_cases h1 : x.data.toList = [43] <;> by_cases h2 : x = s <;> simp [h1, h2]

/-- A topic's first level begins as the topic does (a sign `$`). -/
theorem levels_dollar (s : ByteArray) : ((levels s).head?.map dollarB).getD false = decide (s.data.toList.head? = some 36) := by
  rw [levels_map, List.head?_map, Option.map_map]
  cases hl : s.data.toList with
  | nil => rfl
  | cons c r =>
    rw [split_cons]
    by_cases h : c = 47
    · rw [if_pos h, h]; rfl
    · rw [if_neg h]
      cases split r <;> simp [dollarB, mkB]

/-- What Find gives. -/
def findV (f : ByteArray) (t : Tree) : List MsgV := if (shared f).isSome = true ∨ chkF f ≠ 0 then [] else fnd hashB plusB dollarB t (levels f) (fSign f)

theorem keyed_noroot {t : Tree} (h : Keyed (body t)) : t.val = none := by
  cases hv : t.val with
  | none => rfl
  | some m =>
    have : (([], m) : List ByteArray × MsgV) ∈ body t := by unfold body; rw [hv]; simp [ownE]
    have h1 := (h.key _ this).1
    have h2 := (show 0 < (levels m.topic).length from by unfold levels; simp)
    rw [← h1] at h2
    simp at h2

theorem findV_eq {t : Tree} (hf : Forest ltB t.kids) (hk : Keyed (body t)) (f : ByteArray) : findV f t = vals ((body t).filter (fun e => matchT f e.2.topic)) := by
  unfold findV
  by_cases h0 : (shared f).isSome = true ∨ chkF f ≠ 0
  · rw [if_pos h0]
    symm
    rw [show (body t).filter (fun e => matchT f e.2.topic) = [] from ?_]
    · rfl
    rw [List.filter_eq_nil_iff]
    intro e _
    unfold matchT
    rw [if_pos (by rcases h0 with h | h; exact .inl h; exact .inr (.inl h))]
    simp
  · rw [if_neg h0]
    have hm : ∀ e ∈ body t, matchT f e.2.topic = (goes hashB plusB (levels f) e.1 && !(fSign f && (e.1.head?.map dollarB).getD false)) := fun e he => by
      obtain ⟨k1, k2⟩ := hk.key e he
      have hc : chk e.2.topic = 0 := by unfold taken at k2; simp at k2; exact k2.1.1
      rw [k1, levels_dollar, goes_goesL]
      unfold matchT
      rw [if_neg (by rintro (h | h | h); exact h0 (.inl h); exact h0 (.inr h); exact h hc)]
      unfold fSign
      by_cases hd : e.2.topic.data.toList.head? = some 36
      · by_cases h1 : (levels f).head?.map (·.data.toList) = some [43] <;> by_cases h2 : (levels f).head?.map (·.data.toList) = some [35] <;> simp [hd, h1, h2]
      · simp [hd]
    rw [List.filter_congr hm]
    cases hfs : fSign f with
    | false => rw [fnd_spec hashB plusB dollarB t hf]; simp
    | true =>
      have hne : 0 < (levels f).length := by unfold levels; simp
      cases hl : levels f with
      | nil => rw [hl] at hne; simp at hne
      | cons x xs => rw [fnd_first hashB plusB dollarB hf (keyed_noroot hk)]; simp
end Go.Proofs.YtgnffkahlniehaaGreat
