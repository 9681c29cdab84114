/- A cache's calls, told of the row of its keys and values. -/
import Derived.Test.YteboancapfgdeaaCcSIOldestB
import Derived.Test.YteboancapfgdeaaCcTrueP
namespace Go.Proofs.Yteboancapfgdeaa.SI
open Go.RowKit Go.Proofs.Cc

theorem keys_of {E : List (Ent Str I64)} {L : List (Str × I64)} (h : E.map kv = L) : E.map Ent.key = L.map (·.1) := by rw [← h, keys_kv]

/-- A key's value, and what the row is behind a look. -/
def hitD (k : Str) (L : List (Str × I64)) : List (Str × I64) := match Cc.look k L with | some v => (k, v) :: rmD k L | none => L
def numD (k : Str) (L : List (Str × I64)) : Int := match Cc.look k L with | some v => v.1 | none => 0

theorem getKv {w : World} {c : Nat} {S : Nat → Prop} {most : Nat} {E : List (Ent Str I64)} {L : List (Str × I64)} (HC : CacheAt Try.prog 9 kdS kdI w c S most E) (hL : E.map kv = L) (k : Str) :
    Calls Try.prog 47 #[.pointer (some ⟨c, 0, none⟩), .string k.1] w fun ex w' => ex = .returned (.tuple #[.int .i64 (numD k L), .bool (Cc.look k L).isSome]) ∧ (∃ E', CacheAt Try.prog 9 kdS kdI w' c (Grow S w) most E' ∧ E'.map kv = hitD k L) ∧ Turn S w w' := by
  have hnod : (E.map Ent.key).Nodup := by obtain ⟨b, h, D, C⟩ := HC; exact C.keys
  refine (getSI_any HC k).mono ?_
  rintro ex w' (⟨hno, rfl, rfl⟩ | ⟨p, e, q, hE, he, rfl, hC, hT⟩)
  · have hl : Cc.look k L = none := by rw [← hL]; exact look_none hno
    unfold numD hitD
    rw [hl]
    exact ⟨rfl, ⟨E, HC.wider (fun x h => .inl h), hL⟩, Turn.refl _ _⟩
  · rw [hE] at hnod
    have hl : Cc.look k L = some e.val := by rw [← hL, hE]; exact look_mid he hnod
    unfold numD hitD
    rw [hl]
    refine ⟨rfl, ⟨e :: (p ++ q), hC.wider (fun x h => .inl h), ?_⟩, hT⟩
    have hr := map_rmE k E
    rw [hE, rmE_mid he hnod, ← hE, hL] at hr
    rw [List.map_cons, hr]
    unfold kv
    rw [he]

theorem putKv {w : World} {c : Nat} {S : Nat → Prop} {most : Nat} {E : List (Ent Str I64)} {L : List (Str × I64)} (HC : CacheAt Try.prog 9 kdS kdI w c S most E) (hL : E.map kv = L) (k : Str) (v : I64) (hlen : L.length ≤ 1048576) (hmost : most ≤ 1048576) :
    Calls Try.prog 49 #[.pointer (some ⟨c, 0, none⟩), .string k.1, .int .i64 v.1] w fun ex w' => ex = .returned (.tuple #[]) ∧ (∃ E', CacheAt Try.prog 9 kdS kdI w' c (Grow S w) most E' ∧ E'.map kv = putD most k v L) ∧ Turn S w w' := by
  refine (putSI_any HC k v (by rw [← hL, List.length_map] at hlen; exact hlen) hmost).mono ?_
  rintro ex w' ⟨rfl, E2, h1, h2, h3⟩
  exact ⟨rfl, ⟨E2, h1, by rw [h2, hL]⟩, h3⟩

theorem dropKv {w : World} {c : Nat} {S : Nat → Prop} {most : Nat} {E : List (Ent Str I64)} {L : List (Str × I64)} (HC : CacheAt Try.prog 9 kdS kdI w c S most E) (hL : E.map kv = L) (k : Str) :
    Calls Try.prog 51 #[.pointer (some ⟨c, 0, none⟩), .string k.1] w fun ex w' => ex = .returned (.bool (decide (k ∈ L.map (·.1)))) ∧ (∃ E', CacheAt Try.prog 9 kdS kdI w' c (Grow S w) most E' ∧ E'.map kv = rmD k L) ∧ Turn S w w' := by
  refine (dropSI_any HC k).mono ?_
  rintro ex w' ⟨rfl, h1, h3⟩
  exact ⟨by rw [keys_of hL], ⟨_, h1.wider (fun x h => .inl h), by rw [map_rmE, hL]⟩, h3⟩

theorem clearKv {w : World} {c : Nat} {S : Nat → Prop} {most : Nat} {E : List (Ent Str I64)} {L : List (Str × I64)} (HC : CacheAt Try.prog 9 kdS kdI w c S most E) (hL : E.map kv = L) :
    Calls Try.prog 53 #[.pointer (some ⟨c, 0, none⟩)] w fun ex w' => ex = .returned (.int .i64 L.length) ∧ (∃ E', CacheAt Try.prog 9 kdS kdI w' c (Grow S w) most E' ∧ E'.map kv = []) ∧ Turn S w w' := by
  refine (clearSI_any HC).mono ?_
  rintro ex w' ⟨rfl, h1, h3⟩
  exact ⟨by rw [← hL, List.length_map], ⟨[], h1, rfl⟩, h3⟩

theorem lenKv {w : World} {c : Nat} {S : Nat → Prop} {most : Nat} {E : List (Ent Str I64)} {L : List (Str × I64)} (HC : CacheAt Try.prog 9 kdS kdI w c S most E) (hL : E.map kv = L) :
    Calls Try.prog 55 #[.pointer (some ⟨c, 0, none⟩)] w fun ex w' => ex = .returned (.int .i64 L.length) ∧ w' = w := by
  refine (lenSI_any HC).mono ?_
  rintro ex w' ⟨rfl, rfl⟩
  exact ⟨by rw [← hL, List.length_map], rfl⟩

end Go.Proofs.Yteboancapfgdeaa.SI
