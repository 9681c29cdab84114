/- A cache's calls, told of the row of its keys and values. -/
import Derived.Test.YteboancapfgdeaaCcKLNew
import Derived.Test.YteboancapfgdeaaCcTrueP
namespace Go.Proofs.Yteboancapfgdeaa.KL
open Go.RowKit Go.Proofs.Cc

theorem keys_of {E : List (Ent KeyV SlV)} {L : List (KeyV × SlV)} (h : E.map kv = L) : E.map Ent.key = L.map (·.1) := by rw [← h, keys_kv]

/-- A key's value, and what the row is behind a look. -/
def hitD (k : KeyV) (L : List (KeyV × SlV)) : List (KeyV × SlV) := match Cc.look k L with | some v => (k, v) :: rmD k L | none => L
def valD (k : KeyV) (L : List (KeyV × SlV)) : Value := match Cc.look k L with | some v => .slice (some ⟨v.blk, 0, none⟩) 2 2 | none => .slice none 0 0

theorem getKv {w : World} {c : Nat} {S : Nat → Prop} {most : Nat} {E : List (Ent KeyV SlV)} {L : List (KeyV × SlV)} (HC : CacheAt Try.prog 31 kdK kdL w c S most E) (hL : E.map kv = L) (k : KeyV) :
    Calls Try.prog 37 #[.pointer (some ⟨c, 0, none⟩), .agg #[.string k.name.1, .int .i64 k.n.1]] w fun ex w' => ex = .returned (.tuple #[valD k L, .bool (Cc.look k L).isSome]) ∧ (∃ E', CacheAt Try.prog 31 kdK kdL w' c (Grow S w) most E' ∧ E'.map kv = hitD k L) ∧ Turn S w w' := by
  have hnod : (E.map Ent.key).Nodup := by obtain ⟨b, h, D, C⟩ := HC; exact C.keys
  refine (getKL_any HC k).mono ?_
  rintro ex w' (⟨hno, rfl, hb⟩ | ⟨p, e, q, hE, he, rfl, hC, hT⟩)
  · have hl : Cc.look k L = none := by rw [← hL]; exact look_none hno
    unfold valD hitD
    rw [hl]
    exact ⟨rfl, ⟨E, ((CacheAt.tight HC).frame (Below.toSame hb)).wider (fun x h => .inl h.1), hL⟩, Turn.of_below hb⟩
  · rw [hE] at hnod
    have hl : Cc.look k L = some e.val := by rw [← hL, hE]; exact look_mid he hnod
    unfold valD hitD
    rw [hl]
    refine ⟨rfl, ⟨e :: (p ++ q), hC.wider (fun x h => .inl h), ?_⟩, hT⟩
    have hr := map_rmE k E
    rw [hE, rmE_mid he hnod, ← hE, hL] at hr
    rw [List.map_cons, hr]
    unfold kv
    rw [he]

theorem putKv {w : World} {c : Nat} {S : Nat → Prop} {most : Nat} {E : List (Ent KeyV SlV)} {L : List (KeyV × SlV)} (HC : CacheAt Try.prog 31 kdK kdL w c S most E) (hL : E.map kv = L) (k : KeyV) (v : SlV) (hlen : L.length ≤ 1048576) (hmost : most ≤ 1048576) :
    Calls Try.prog 38 #[.pointer (some ⟨c, 0, none⟩), .agg #[.string k.name.1, .int .i64 k.n.1], .slice (some ⟨v.blk, 0, none⟩) 2 2] w fun ex w' => ex = .returned (.tuple #[]) ∧ (∃ E', CacheAt Try.prog 31 kdK kdL w' c (Grow S w) most E' ∧ E'.map kv = putD most k v L) ∧ Turn S w w' := by
  refine (putKL_any HC k v (by rw [← hL, List.length_map] at hlen; exact hlen) hmost).mono ?_
  rintro ex w' ⟨rfl, E2, h1, h2, h3⟩
  exact ⟨rfl, ⟨E2, h1, by rw [h2, hL]⟩, h3⟩

theorem dropKv {w : World} {c : Nat} {S : Nat → Prop} {most : Nat} {E : List (Ent KeyV SlV)} {L : List (KeyV × SlV)} (HC : CacheAt Try.prog 31 kdK kdL w c S most E) (hL : E.map kv = L) (k : KeyV) :
    Calls Try.prog 116 #[.pointer (some ⟨c, 0, none⟩), .agg #[.string k.name.1, .int .i64 k.n.1]] w fun ex w' => ex = .returned (.bool (decide (k ∈ L.map (·.1)))) ∧ (∃ E', CacheAt Try.prog 31 kdK kdL w' c (Grow S w) most E' ∧ E'.map kv = rmD k L) ∧ Turn S w w' := by
  refine (dropKL_any HC k).mono ?_
  rintro ex w' ⟨rfl, h1, h3⟩
  exact ⟨by rw [keys_of hL], ⟨_, h1.wider (fun x h => .inl h), by rw [map_rmE, hL]⟩, h3⟩

theorem clearKv {w : World} {c : Nat} {S : Nat → Prop} {most : Nat} {E : List (Ent KeyV SlV)} {L : List (KeyV × SlV)} (HC : CacheAt Try.prog 31 kdK kdL w c S most E) (hL : E.map kv = L) :
    Calls Try.prog 36 #[.pointer (some ⟨c, 0, none⟩)] w fun ex w' => ex = .returned (.int .i64 L.length) ∧ (∃ E', CacheAt Try.prog 31 kdK kdL w' c (Grow S w) most E' ∧ E'.map kv = []) ∧ Turn S w w' := by
  refine (clearKL_any HC).mono ?_
  rintro ex w' ⟨rfl, h1, h3⟩
  exact ⟨by rw [← hL, List.length_map], ⟨[], h1, rfl⟩, h3⟩

end Go.Proofs.Yteboancapfgdeaa.KL
