/- Plain: the chapter's first example. No code walked. -/
import Derived.Test.YtgnffkahlniehaaGreatRtLaid
namespace Go.Proofs.YtgnffkahlniehaaGreat
open Go Go.RowKit Go.Proofs.Gs Go.Proofs.Tri Go.Proofs.Rt Go.Proofs.Tp

def sB : ByteArray := ⟨#[98]⟩
def sAB : ByteArray := ⟨#[97, 47, 98]⟩
def sD : ByteArray := ⟨#[36, 97]⟩
def sA : ByteArray := ⟨#[97]⟩
def sHash : ByteArray := ⟨#[35]⟩
def four : List MsgV := [ofM sB, ofM sAB, ofM sD, ofM sA]

theorem four_takes : takes (ofM sB) = true ∧ takes (ofM sAB) = true ∧ takes (ofM sD) = true ∧ takes (ofM sA) = true := by
  refine ⟨by kernel_rfl, by kernel_rfl, by kernel_rfl, by kernel_rfl⟩
theorem four_body : bodyOf four = [([sD], ofM sD), ([sA], ofM sA), ([sA, sB], ofM sAB), ([sB], ofM sB)] := by kernel_rfl
theorem four_new : ∀ j m, four[j]? = some m → (get (levels m.topic) (bodyOf (four.take j))).isSome = false ∧ takes m = true
  | 0, m, h => by injection h with h; subst h; exact ⟨by kernel_rfl, four_takes.1⟩
  | 1, m, h => by injection h with h; subst h; exact ⟨by kernel_rfl, four_takes.2.1⟩
  | 2, m, h => by injection h with h; subst h; exact ⟨by kernel_rfl, four_takes.2.2.1⟩
  | 3, m, h => by injection h with h; subst h; exact ⟨by kernel_rfl, four_takes.2.2.2⟩
  | j + 4, m, h => by simp [four] at h
theorem four_hash : vals ((bodyOf four).filter (fun e => matchT sHash e.2.topic)) = [ofM sA, ofM sAB, ofM sB] := by kernel_rfl
theorem four_all : vals (bodyOf four) = [ofM sD, ofM sA, ofM sAB, ofM sB] := by rw [four_body]; rfl
theorem four_era : era (levels sA) (bodyOf four) = [([sD], ofM sD), ([sA, sB], ofM sAB), ([sB], ofM sB)] ∧ (get (levels sA) (bodyOf four)).isSome = true := by
  rw [four_body]; exact ⟨by kernel_rfl, by kernel_rfl⟩

def tree5 : Tree := .node [] none [.node [sD] (some (ofM sD)) [], .node [sA] (some (ofM sA)) [.node [sB] (some (ofM sAB)) []], .node [sB] (some (ofM sB)) []]
def tree4 : Tree := .node [] none [.node [sD] (some (ofM sD)) [], .node [sA, sB] (some (ofM sAB)) [], .node [sB] (some (ofM sB)) []]

theorem leafOk (lv : List ByteArray) (m : MsgV) : Ok ltB (.node lv (some m) [] : Tree) := .mk _ _ _ (.inl rfl) .nil (by simp) (by simp)
theorem forest5 : Forest ltB tree5.kids := by
  refine ⟨?_, ?_, ?_⟩
  · refine List.Pairwise.cons ?_ (List.Pairwise.cons ?_ (List.Pairwise.cons (by simp) .nil))
    · intro b hb
      simp at hb
      rcases hb with rfl | rfl
      · exact ⟨sD, [], sA, [], rfl, rfl, by kernel_rfl⟩
      · exact ⟨sD, [], sB, [], rfl, rfl, by kernel_rfl⟩
    · intro b hb
      simp at hb
      subst hb
      exact ⟨sA, [], sB, [], rfl, rfl, by kernel_rfl⟩
  · intro k hk
    simp [tree5, Tr.kids_node] at hk
    rcases hk with rfl | rfl | rfl <;> simp [Tr.lv_node]
  · intro k hk
    simp [tree5, Tr.kids_node] at hk
    rcases hk with rfl | rfl | rfl
    · exact leafOk _ _
    · exact .mk _ _ _ (.inl rfl) (by simp) (by simp [Tr.lv_node]) (by simpa using leafOk _ _)
    · exact leafOk _ _
theorem forest4 : Forest ltB tree4.kids := by
  refine ⟨?_, ?_, ?_⟩
  · refine List.Pairwise.cons ?_ (List.Pairwise.cons ?_ (List.Pairwise.cons (by simp) .nil))
    · intro b hb
      simp at hb
      rcases hb with rfl | rfl
      · exact ⟨sD, [], sA, [sB], rfl, rfl, by kernel_rfl⟩
      · exact ⟨sD, [], sB, [], rfl, rfl, by kernel_rfl⟩
    · intro b hb
      simp at hb
      subst hb
      exact ⟨sA, [sB], sB, [], rfl, rfl, by kernel_rfl⟩
  · intro k hk
    simp [tree4, Tr.kids_node] at hk
    rcases hk with rfl | rfl | rfl <;> simp [Tr.lv_node]
  · intro k hk
    simp [tree4, Tr.kids_node] at hk
    rcases hk with rfl | rfl | rfl <;> exact leafOk _ _

theorem nodes5 {t : Tree} (hf : Forest ltB t.kids) (hl : t.lv = []) (hb : body t = bodyOf four) : nodes t = 5 := by
  have : t = tree5 := trie_ext linB _ t tree5 (Nat.le_refl _) hf forest5 hl (by rw [hb, four_body]; rfl)
  rw [this]; rfl
theorem nodes4 {t : Tree} (hf : Forest ltB t.kids) (hl : t.lv = []) (hb : body t = era (levels sA) (bodyOf four)) : nodes t = 4 := by
  have : t = tree4 := trie_ext linB _ t tree4 (Nat.le_refl _) hf forest4 hl (by rw [hb, four_era.1]; rfl)
  rw [this]; rfl
end Go.Proofs.YtgnffkahlniehaaGreat
