/- Proved here: Put and Drop of a trie told by what it holds. -/
import Derived.Test.YtgnffkahlniehaaGreatRtOf
import Derived.Test.YtgnffkahlniehaaGreatRtTPut
import Derived.Test.YtgnffkahlniehaaGreatRtBound
import Derived.Test.YtgnffkahlniehaaGreatRtFound
namespace Go.Proofs.YtgnffkahlniehaaGreat
open Go Go.RowKit Go.Proofs.Gs Go.Proofs.Tri Go.Proofs.Rt Go.Proofs.Tp Go.Proofs.Rg

/-- A trie in memory, by what it holds. -/
structure Grove (F : Nat → Prop) (w : World) (tb : Nat) (t : Tree) (B : Ents) : Prop where
  tr : TrieAt F w tb t
  lv : t.lv = []
  body : body t = B
  keyed : Keyed B

def putTree (t : Tree) (m : MsgV) : Tree := if takes m = true then put ltB t (levels m.topic) m else t

theorem grove_one {F1 F2 : Nat → Prop} {w1 w2 : World} {b1 b2 : Nat} {t1 t2 : Tree} {B : Ents} (h1 : Grove F1 w1 b1 t1 B) (h2 : Grove F2 w2 b2 t2 B) : t1 = t2 :=
  trie_ext linB _ t1 t2 (Nat.le_refl _) h1.tr.forest h2.tr.forest (h1.lv.trans h2.lv.symm) (h1.body.trans h2.body.symm)

theorem Grove.below {F : Nat → Prop} {w w' : World} {tb : Nat} {t : Tree} {B : Ents} (h : Grove F w tb t B) (hb : Below w.heap.size w w') : Grove F w' tb t B := ⟨h.tr.below hb, h.lv, h.body, h.keyed⟩

theorem TrieAt.grown {F : Nat → Prop} {w w' : World} {tb ub : Nat} {t : Tree} (h : TrieAt F w ub t) (hg : w.grownBy w' (some tb)) (h1 : tb ≠ ub) (h2 : ¬ F tb) : TrieAt F w' ub t := by
  obtain ⟨p, hp, hn⟩ := h.root
  have hlt := h.lt
  have hk : ∀ k, k < w.heap.size → k ≠ tb → w'.heap[k]? = w.heap[k]? := fun k hk hne => hg.block k hk (fun e => hne (by injection e))
  have hs : Same F w w' := fun k hk' hF => hk k hk' (fun e => h2 (e ▸ hF))
  refine ⟨⟨p, ?_, NodeAt.same hs hn⟩, ?_, h.out, fun x hx => Nat.lt_of_lt_of_le (h.old x hx) hg.size, h.forest, h.lim⟩
  · unfold World.cell? at hp ⊢
    rw [hk ub hlt (Ne.symm h1)]
    exact hp
  · have := h.fit
    unfold World.frozen? at this ⊢
    rw [hk ub hlt (Ne.symm h1)]
    exact this
theorem Grove.grown {F : Nat → Prop} {w w' : World} {tb ub : Nat} {t : Tree} {B : Ents} (h : Grove F w ub t B) (hg : w.grownBy w' (some tb)) (h1 : tb ≠ ub) (h2 : ¬ F tb) : Grove F w' ub t B := ⟨h.tr.grown hg h1 h2, h.lv, h.body, h.keyed⟩

theorem tput_any {F G : Nat → Prop} {w : World} {tb : Nat} {t : Tree} {B : Ents} (T : Grove F w tb t B) (hsh : ∀ e ∈ B, e.2.pay.length ≤ 1000000000) (hcount : B.length < 1000000) {v : Value} {m : MsgV} (hv : MsgVal G w v m) (hs : m.topic.size ≤ 1000000000) (hpay : m.pay.length ≤ 1000000000) :
    Calls Tryz.prog 10 #[.pointer (some ⟨tb, 0, none⟩), v] w fun e w' => ∃ n : Int, (takes m = true ↔ n = 0) ∧ e = .returned (.tuple #[.bool (takes m && (get (levels m.topic) B).isSome), .int .i64 n]) ∧ Grove (Since F w w') w' tb (putTree t m) (putB B m) ∧ w.grownBy w' (some tb) := by
  have hb := T.body
  subst hb
  cases hm : takes m with
  | false =>
    refine (tput_no T.tr hv hs hm).mono ?_
    rintro e w' ⟨⟨n, hn, rfl⟩, hp⟩
    have e1 : putTree t m = t := by unfold putTree; rw [if_neg (by rw [hm]; simp)]
    have e2 : putB (Tri.body t) m = Tri.body t := by unfold putB; rw [if_neg (by rw [show taken m = takes m from rfl, hm]; simp)]
    refine ⟨n, by simp [hn], by simp, ?_, hp.2⟩
    rw [e1, e2]
    exact ⟨hp.1, T.lv, rfl, T.keyed⟩
  | true =>
    refine (tput_yes T.tr hsh hcount hv hs hpay hm).mono ?_
    rintro e w' ⟨rfl, hp⟩
    have e1 : putTree t m = put ltB t (levels m.topic) m := by unfold putTree; rw [if_pos hm]
    have hspec := put_spec linB m (levels m.topic).length (levels m.topic) t (Nat.le_refl _) T.tr.forest
    refine ⟨0, by simp, by simp, ?_, hp.2⟩
    have e2 : putB (Tri.body t) m = Tri.body (put ltB t (levels m.topic) m) := by unfold putB; rw [if_pos (by rw [show taken m = takes m from rfl, hm]), hspec.2.1]
    rw [e1]
    exact ⟨hp.1, by rw [hspec.1]; exact T.lv, e2.symm, T.keyed.put m⟩

theorem tdrop_grove {F : Nat → Prop} {w : World} {tb : Nat} {t : Tree} {B : Ents} (T : Grove F w tb t B) (hsh : ∀ e ∈ B, e.2.pay.length ≤ 1000000000) (s : ByteArray) (hs : s.size ≤ 1000000000) :
    Calls Tryz.prog 12 #[.pointer (some ⟨tb, 0, none⟩), .string s] w fun e w' => ∃ t', e = .returned (.bool (get (levels s) B).isSome) ∧ Grove (Since F w w') w' tb t' (era (levels s) B) ∧ (t' = if (get (levels s) B).isSome = true then drp ltB t (levels s) else t) ∧ w.grownBy w' (some tb) := by
  have hb := T.body
  subst hb
  refine (tdrop_any T.tr hsh s hs).mono ?_
  rintro e w' ⟨rfl, hp⟩
  refine ⟨_, rfl, ?_, rfl, hp.2⟩
  cases hg : get (levels s) (Tri.body t) with
  | none =>
    have h1 := hp.1
    rw [hg] at h1
    rw [era_get_none hg]
    exact ⟨h1, T.lv, rfl, T.keyed⟩
  | some m =>
    have h1 := hp.1
    rw [hg] at h1
    obtain ⟨d1, d2, d3⟩ := drp_spec linB (levels s).length (levels s) t (Nat.le_refl _) T.tr.forest (by rw [hg]; rfl)
    exact ⟨h1, d1.trans T.lv, d2, T.keyed.era _⟩

theorem grove_new {w' : World} {F : Nat → Prop} {tb : Nat} (T : TrieAt F w' tb (.node [] none [])) : Grove F w' tb (.node [] none []) [] := ⟨T, rfl, rfl, Keyed.nil⟩

theorem body_pays {l : List MsgV} (h : ∀ m ∈ l, m.pay.length ≤ 60000) : ∀ e ∈ bodyOf l, e.2.pay.length ≤ 1000000000 := fun e he => by have := h e.2 (body_mem he); omega
end Go.Proofs.YtgnffkahlniehaaGreat
