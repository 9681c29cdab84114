/- Plain law: the levels of a text, as the program reckons them byte by byte. No program in sight. -/
import GoSem.Core.Utf8
import Derived.Laws.RangeAny
import Derived.WalkKit
import Derived.WalkSmall
import Derived.Lib.Strings
import Derived.Lib.Join
import Derived.Lib.IndexAny
import Derived.Sort.Walk0
import Derived.Test.YtgnffkahlniehaaGreatChecked
import Derived.Test.YtgnffkahlniehaaGreatShelf
import Derived.WalkSpells
import Derived.Lib.Hide
import Derived.BigQuiet
import Derived.Deep.QuietTactic
import Derived.RegionTactic
import Derived.Maps.AppendAt
import Derived.Deep.LoopGhost
import Derived.WalkLawsBesides
namespace Go.Proofs.Tp
open Go

/-- One byte: what is cut off so far, and where the level that is open begins. -/
def lvStep (s : ByteArray) (st : List ByteArray × Nat) (i : Nat) : List ByteArray × Nat :=
  if s.data.toList[i]? = some 47 then (st.1 ++ [s.extract st.2 i], i + 1) else st

/-- Behind the first n bytes. -/
def lvTo (s : ByteArray) (n : Nat) : List ByteArray × Nat := (List.range n).foldl (lvStep s) ([], 0)

/-- The levels of a text. -/
def levels (s : ByteArray) : List ByteArray := (lvTo s s.size).1 ++ [s.extract (lvTo s s.size).2 s.size]

theorem lvTo_succ (s : ByteArray) (n : Nat) : lvTo s (n + 1) = lvStep s (lvTo s n) n := by
  simp [lvTo, List.range_succ]

theorem lvTo_le (s : ByteArray) : ∀ n, (lvTo s n).2 ≤ n ∧ (lvTo s n).1.length ≤ n
  | 0 => by simp [lvTo]
  | n + 1 => by
    have h := lvTo_le s n
    rw [lvTo_succ]; unfold lvStep; split
    · simp; omega
    · omega

/-- A byte at or above 128 cuts nothing. -/
theorem lvTo_high (s : ByteArray) (n : Nat) (h : s.data.toList[n]? ≠ some 47) : lvTo s (n + 1) = lvTo s n := by
  rw [lvTo_succ]; unfold lvStep; rw [if_neg h]

theorem lvTo_jump (s : ByteArray) (n k : Nat) (h : ∀ j, j < k → s.data.toList[n + j]? ≠ some 47) : lvTo s (n + k) = lvTo s n := by
  induction k with
  | zero => rfl
  | succ k ih =>
    rw [← Nat.add_assoc, lvTo_high s (n + k) (h k (by omega))]
    exact ih (fun j hj => h j (by omega))

theorem get_toList (s : ByteArray) (i : Nat) (h : i < s.size) : s.data.toList[i]? = some (s.get! i) := by
  have h' : i < s.data.toList.length := by simpa using h
  rw [List.getElem?_eq_getElem h']
  congr 1
  simp [ByteArray.get!, getElem!_pos, h]

/-- Of the bytes that one decoding takes, none but the first of a width of one is the ASCII byte k; that one is it just where the code is k's number. -/
theorem decode_byte (s : ByteArray) (pos : Nat) (h : pos < s.size) (k : UInt8) (hk : k.toNat < 128) :
    (((Utf8.decode s pos).1 = k.toNat ∧ (Utf8.decode s pos).2 = 1 ∧ s.data.toList[pos]? = some k) ∨
      ((Utf8.decode s pos).1 ≠ k.toNat ∧ ∀ j, j < (Utf8.decode s pos).2 → s.data.toList[pos + j]? ≠ some k)) ∧
    1 ≤ (Utf8.decode s pos).2 ∧ pos + (Utf8.decode s pos).2 ≤ s.size := by
  have h0 := get_toList s pos h
  simp only [Utf8.decode, Nat.add_zero]
  have key : ∀ j, j + pos < s.size → (s.get! (pos + j)).toNat / 64 = 2 → s.data.toList[pos + j]? ≠ some k := by
    intro j hj hc
    rw [get_toList s (pos + j) (by omega)]
    intro e
    rw [Option.some.inj e] at hc
    omega
  have key0 : ¬ (s.get! pos).toNat < 128 → s.data.toList[pos]? ≠ some k := by
    intro hn e
    rw [h0] at e
    rw [Option.some.inj e] at hn
    exact hn hk
  have one : ¬ (s.get! pos).toNat < 128 → ∀ j, j < 1 → s.data.toList[pos + j]? ≠ some k := by
    intro hn j hj
    obtain rfl : j = 0 := by omega
    exact key0 hn
  split
  · rename_i ha
    refine ⟨?_, Nat.le_refl _, h⟩
    by_cases e : (s.get! pos).toNat = k.toNat
    · left
      refine ⟨e, rfl, ?_⟩
      rw [h0]
      congr 1
      exact UInt8.toNat.inj e
    · right
      refine ⟨e, ?_⟩
      intro j hj
      obtain rfl : j = 0 := by omega
      simp only [Nat.add_zero]
      rw [h0]
      intro e'
      exact e (by rw [Option.some.inj e'])
  · rename_i ha
    have many : ∀ n, n ≤ 4 → (1 < n → pos + 1 < s.size ∧ (s.get! (pos + 1)).toNat / 64 = 2) → (2 < n → pos + 2 < s.size ∧ (s.get! (pos + 2)).toNat / 64 = 2) →
        (3 < n → pos + 3 < s.size ∧ (s.get! (pos + 3)).toNat / 64 = 2) → ∀ j, j < n → s.data.toList[pos + j]? ≠ some k := by
      intro n hn h1 h2 h3 j hj
      match j, hj with
      | 0, _ => exact key0 ha
      | 1, hj => exact key 1 (by have := (h1 (by omega)).1; omega) (h1 (by omega)).2
      | 2, hj => exact key 2 (by have := (h2 (by omega)).1; omega) (h2 (by omega)).2
      | 3, hj => exact key 3 (by have := (h3 (by omega)).1; omega) (h3 (by omega)).2
      | j + 4, hj => omega
    have fff : Utf8.runeError ≠ k.toNat := by unfold Utf8.runeError; omega
    simp only [Bool.and_eq_true, decide_eq_true_eq, beq_iff_eq]
    split
    · rename_i hc
      split
      · exact ⟨.inr ⟨by dsimp only; omega, many 2 (by omega) (fun _ => hc.2) (by omega) (by omega)⟩, by dsimp only; omega, by dsimp only; omega⟩
      · exact ⟨.inr ⟨fff, one ha⟩, Nat.le_refl _, h⟩
    · split
      · rename_i hc
        split
        · exact ⟨.inr ⟨by dsimp only; omega, many 3 (by omega) (fun _ => hc.1.2) (fun _ => hc.2) (by omega)⟩, by dsimp only; omega, by dsimp only; omega⟩
        · exact ⟨.inr ⟨fff, one ha⟩, Nat.le_refl _, h⟩
      · split
        · rename_i hc
          split
          · exact ⟨.inr ⟨by dsimp only; omega, many 4 (by omega) (fun _ => hc.1.1.2) (fun _ => hc.1.2) (fun _ => hc.2)⟩, by dsimp only; omega, by dsimp only; omega⟩
          · exact ⟨.inr ⟨fff, one ha⟩, Nat.le_refl _, h⟩
        · exact ⟨.inr ⟨fff, one ha⟩, Nat.le_refl _, h⟩

/-! ### Well-formed texts, a byte at a time: what is still to come of a code point is kept as bounds. -/

/-- The bounds of the bytes that go on behind one with which a code point begins; none: no code point that may stand begins so (0 may not). -/
def need (c : Nat) : Option (List (Nat × Nat)) :=
  if c = 0 then none else if c < 128 then some [] else if c < 194 then none else if c < 224 then some [(128, 191)]
  else if c = 224 then some [(160, 191), (128, 191)] else if c = 237 then some [(128, 159), (128, 191)] else if c < 240 then some [(128, 191), (128, 191)]
  else if c = 240 then some [(144, 191), (128, 191), (128, 191)] else if c < 244 then some [(128, 191), (128, 191), (128, 191)]
  else if c = 244 then some [(128, 143), (128, 191), (128, 191)] else none

def utf : List (Nat × Nat) → List UInt8 → Bool
  | [], [] => true
  | _ :: _, [] => false
  | [], c :: r => match need c.toNat with
    | none => false
    | some p => utf p r
  | b :: p, c :: r => decide (b.1 ≤ c.toNat) && decide (c.toNat ≤ b.2) && utf p r

theorem utf_nil (c : UInt8) (r : List UInt8) : utf [] (c :: r) = match need c.toNat with | none => false | some p => utf p r := by rw [utf]
theorem utf_cons (b : Nat × Nat) (p : List (Nat × Nat)) (c : UInt8) (r : List UInt8) : utf (b :: p) (c :: r) = (decide (b.1 ≤ c.toNat) && decide (c.toNat ≤ b.2) && utf p r) := by rw [utf]
theorem utf_short (b : Nat × Nat) (p : List (Nat × Nat)) : utf (b :: p) [] = false := by rw [utf]

theorem drop_get (s : ByteArray) (i : Nat) (h : i < s.size) : s.data.toList.drop i = s.get! i :: s.data.toList.drop (i + 1) := by
  have h' : i < s.data.toList.length := by simpa using h
  rw [List.drop_eq_getElem_cons h']
  congr 1
  have := get_toList s i h
  rw [List.getElem?_eq_getElem h'] at this
  exact Option.some.inj this

theorem drop_end (s : ByteArray) (i : Nat) (h : ¬ i < s.size) : s.data.toList.drop i = [] := by
  rw [List.drop_eq_nil_iff]; simpa using Nat.le_of_not_lt h

theorem utf_step (b : Nat × Nat) (p : List (Nat × Nat)) (s : ByteArray) (i : Nat) :
    utf (b :: p) (s.data.toList.drop i) = if i < s.size ∧ b.1 ≤ (s.get! i).toNat ∧ (s.get! i).toNat ≤ b.2 then utf p (s.data.toList.drop (i + 1)) else false := by
  by_cases h : i < s.size
  · rw [drop_get s i h, utf_cons]
    by_cases h1 : b.1 ≤ (s.get! i).toNat <;> by_cases h2 : (s.get! i).toNat ≤ b.2 <;> simp [h, h1, h2]
  · rw [drop_end s i h, utf_short, if_neg (by omega)]

/-- The decoding in numbers: of n bytes that are left, the first four. -/
def decN (n c0 c1 c2 c3 : Nat) : Nat × Nat :=
  if c0 < 128 then (c0, 1)
  else if c0 / 32 = 6 ∧ 1 < n ∧ c1 / 64 = 2 then (if c0 % 32 * 64 + c1 % 64 ≥ 128 then (c0 % 32 * 64 + c1 % 64, 2) else (65533, 1))
  else if (c0 / 16 = 14 ∧ 1 < n ∧ c1 / 64 = 2) ∧ 2 < n ∧ c2 / 64 = 2 then
    (if c0 % 16 * 4096 + c1 % 64 * 64 + c2 % 64 ≥ 2048 ∧ (c0 % 16 * 4096 + c1 % 64 * 64 + c2 % 64 < 55296 ∨ 57344 ≤ c0 % 16 * 4096 + c1 % 64 * 64 + c2 % 64 ∧ c0 % 16 * 4096 + c1 % 64 * 64 + c2 % 64 ≤ 1114111)
      then (c0 % 16 * 4096 + c1 % 64 * 64 + c2 % 64, 3) else (65533, 1))
  else if ((c0 / 8 = 30 ∧ 1 < n ∧ c1 / 64 = 2) ∧ 2 < n ∧ c2 / 64 = 2) ∧ 3 < n ∧ c3 / 64 = 2 then
    (if c0 % 8 * 262144 + c1 % 64 * 4096 + c2 % 64 * 64 + c3 % 64 ≥ 65536 ∧ (c0 % 8 * 262144 + c1 % 64 * 4096 + c2 % 64 * 64 + c3 % 64 < 55296 ∨ 57344 ≤ c0 % 8 * 262144 + c1 % 64 * 4096 + c2 % 64 * 64 + c3 % 64 ∧ c0 % 8 * 262144 + c1 % 64 * 4096 + c2 % 64 * 64 + c3 % 64 ≤ 1114111)
      then (c0 % 8 * 262144 + c1 % 64 * 4096 + c2 % 64 * 64 + c3 % 64, 4) else (65533, 1))
  else (65533, 1)

theorem valid_nat (c : Nat) : Utf8.valid (c : Int) = true ↔ (c < 55296 ∨ (57344 ≤ c ∧ c ≤ 1114111)) := by
  unfold Utf8.valid
  rw [Bool.or_eq_true, Bool.and_eq_true, Bool.and_eq_true, decide_eq_true_iff, decide_eq_true_iff, decide_eq_true_iff, decide_eq_true_iff]
  omega

theorem decode_eq (s : ByteArray) (pos : Nat) (h : pos < s.size) :
    Utf8.decode s pos = decN (s.size - pos) (s.get! pos).toNat (s.get! (pos + 1)).toNat (s.get! (pos + 2)).toNat (s.get! (pos + 3)).toNat := by
  have b0 := (s.get! pos).toNat_lt
  unfold Utf8.decode decN
  obtain ⟨n, hn⟩ : ∃ n, n = s.size - pos := ⟨_, rfl⟩
  rw [← hn]
  have e1 : (pos + 1 < s.size) = (1 < n) := by simp; omega
  have e2 : (pos + 2 < s.size) = (2 < n) := by simp; omega
  have e3 : (pos + 3 < s.size) = (3 < n) := by simp; omega
  clear hn
  simp only [Nat.add_zero, e1, e2, e3, valid_nat, Bool.and_eq_true, decide_eq_true_eq, beq_iff_eq, Utf8.runeError]

theorem decN_short (n c0 c1 c2 c3 : Nat) (h : decN n c0 c1 c2 c3 = (65533, 1)) : ((decN n c0 c1 c2 c3).1 = 0 ∨ ((decN n c0 c1 c2 c3).1 = 65533 ∧ (decN n c0 c1 c2 c3).2 = 1)) := by
  rw [h]; exact .inr ⟨rfl, rfl⟩

/-- One decoding: it is amiss just where the text is not well-formed there; else what is behind it decides. -/
theorem decode_utf (s : ByteArray) (pos : Nat) (h : pos < s.size) :
    (((Utf8.decode s pos).1 = 0 ∨ ((Utf8.decode s pos).1 = 65533 ∧ (Utf8.decode s pos).2 = 1)) ∧ utf [] (s.data.toList.drop pos) = false) ∨
    ((Utf8.decode s pos).1 ≠ 0 ∧ ¬ ((Utf8.decode s pos).1 = 65533 ∧ (Utf8.decode s pos).2 = 1) ∧ utf [] (s.data.toList.drop pos) = utf [] (s.data.toList.drop (pos + (Utf8.decode s pos).2))) := by
  rw [drop_get s pos h, utf_nil, decode_eq s pos h]
  have b0 := (s.get! pos).toNat_lt; have b1 := (s.get! (pos + 1)).toNat_lt; have b2 := (s.get! (pos + 2)).toNat_lt; have b3 := (s.get! (pos + 3)).toNat_lt
  have u1 := fun b p => utf_step b p s (pos + 1)
  have u2 := fun b p => utf_step b p s (pos + 2)
  have u3 := fun b p => utf_step b p s (pos + 3)
  obtain ⟨n, hn⟩ : ∃ n, n = s.size - pos := ⟨_, rfl⟩
  rw [← hn]
  have e1 : (pos + 1 < s.size) = (1 < n) := by simp; omega
  have e2 : (pos + 2 < s.size) = (2 < n) := by simp; omega
  have e3 : (pos + 3 < s.size) = (3 < n) := by simp; omega
  have hn0 : 0 < n := by omega
  simp only [e1] at u1
  simp only [e2, Nat.add_assoc, Nat.reduceAdd] at u2
  simp only [e3, Nat.add_assoc, Nat.reduceAdd] at u3
  simp only [Nat.add_assoc, Nat.reduceAdd] at u1
  clear e1 e2 e3 h hn
  generalize (s.get! pos).toNat = c0 at *
  generalize (s.get! (pos + 1)).toNat = c1 at *
  generalize (s.get! (pos + 2)).toNat = c2 at *
  generalize (s.get! (pos + 3)).toNat = c3 at *
  generalize s.data.toList = l at *
  by_cases z : c0 = 0
  · left; subst z; exact ⟨.inl (by simp [decN]), by simp [need]⟩
  by_cases r0 : c0 < 128
  · right
    have hd : decN n c0 c1 c2 c3 = (c0, 1) := by unfold decN; rw [if_pos r0]
    rw [hd]
    refine ⟨z, by dsimp only; omega, ?_⟩
    simp [need, z, r0]
  by_cases r1 : c0 < 194
  · left
    have hd : decN n c0 c1 c2 c3 = (65533, 1) := by unfold decN; rw [if_neg r0]; split; (rw [if_neg (by omega)]); rw [if_neg (by omega), if_neg (by omega)]
    refine ⟨decN_short _ _ _ _ _ hd, ?_⟩
    have : need c0 = none := by unfold need; rw [if_neg z, if_neg r0, if_pos r1]
    rw [this]
  by_cases r2 : c0 < 224
  · have hne : need c0 = some [(128, 191)] := by unfold need; rw [if_neg z, if_neg r0, if_neg r1, if_pos r2]
    rw [hne]; simp only [u1]
    by_cases g1 : 1 < n ∧ 128 ≤ c1 ∧ c1 ≤ 191
    · right
      have hd : decN n c0 c1 c2 c3 = ((c0 % 32) * 64 + c1 % 64, 2) := by unfold decN; rw [if_neg r0, if_pos (by omega), if_pos (by omega)]
      rw [hd, if_pos g1]
      exact ⟨by dsimp only; omega, by dsimp only; omega, rfl⟩
    · left
      have hd : decN n c0 c1 c2 c3 = (65533, 1) := by unfold decN; rw [if_neg r0, if_neg (by omega), if_neg (by omega), if_neg (by omega)]
      exact ⟨decN_short _ _ _ _ _ hd, by rw [if_neg g1]⟩
  by_cases r3 : c0 < 240
  · obtain ⟨lo, hi, hne, hlo⟩ : ∃ lo hi, need c0 = some [(lo, hi), (128, 191)] ∧ ((c0 = 224 ∧ lo = 160 ∧ hi = 191) ∨ (c0 = 237 ∧ lo = 128 ∧ hi = 159) ∨ (c0 ≠ 224 ∧ c0 ≠ 237 ∧ lo = 128 ∧ hi = 191)) := by
      by_cases q1 : c0 = 224
      · exact ⟨160, 191, by subst q1; rfl, .inl ⟨q1, rfl, rfl⟩⟩
      by_cases q2 : c0 = 237
      · exact ⟨128, 159, by subst q2; rfl, .inr (.inl ⟨q2, rfl, rfl⟩)⟩
      · exact ⟨128, 191, by unfold need; rw [if_neg z, if_neg r0, if_neg r1, if_neg r2, if_neg q1, if_neg q2, if_pos r3], .inr (.inr ⟨q1, q2, rfl, rfl⟩)⟩
    rw [hne]; simp only [u1, u2]
    by_cases g1 : (1 < n ∧ lo ≤ c1 ∧ c1 ≤ hi) ∧ 2 < n ∧ 128 ≤ c2 ∧ c2 ≤ 191
    · right
      have hd : decN n c0 c1 c2 c3 = ((c0 % 16) * 4096 + (c1 % 64) * 64 + c2 % 64, 3) := by unfold decN; rw [if_neg r0, if_neg (by omega), if_pos (by omega), if_pos (by omega)]
      rw [hd, if_pos g1.1, if_pos g1.2]
      exact ⟨by dsimp only; omega, by dsimp only; omega, rfl⟩
    · left
      have hd : decN n c0 c1 c2 c3 = (65533, 1) := by
        unfold decN; rw [if_neg r0, if_neg (by omega)]
        split
        · rw [if_neg (by omega)]
        · rw [if_neg (by omega)]
      refine ⟨decN_short _ _ _ _ _ hd, ?_⟩
      by_cases g2 : 1 < n ∧ lo ≤ c1 ∧ c1 ≤ hi
      · rw [if_pos g2, if_neg (fun g3 => g1 ⟨g2, g3⟩)]
      · rw [if_neg g2]
  by_cases r4 : c0 < 245
  · obtain ⟨lo, hi, hne, hlo⟩ : ∃ lo hi, need c0 = some [(lo, hi), (128, 191), (128, 191)] ∧ ((c0 = 240 ∧ lo = 144 ∧ hi = 191) ∨ (c0 = 244 ∧ lo = 128 ∧ hi = 143) ∨ (c0 ≠ 240 ∧ c0 ≠ 244 ∧ lo = 128 ∧ hi = 191)) := by
      by_cases q1 : c0 = 240
      · exact ⟨144, 191, by subst q1; rfl, .inl ⟨q1, rfl, rfl⟩⟩
      by_cases q2 : c0 = 244
      · exact ⟨128, 143, by subst q2; rfl, .inr (.inl ⟨q2, rfl, rfl⟩)⟩
      · exact ⟨128, 191, by unfold need; rw [if_neg z, if_neg r0, if_neg r1, if_neg r2, if_neg (by omega), if_neg (by omega), if_neg r3, if_neg q1, if_pos (by omega)], .inr (.inr ⟨q1, q2, rfl, rfl⟩)⟩
    rw [hne]; simp only [u1, u2, u3]
    by_cases g1 : (1 < n ∧ lo ≤ c1 ∧ c1 ≤ hi) ∧ (2 < n ∧ 128 ≤ c2 ∧ c2 ≤ 191) ∧ 3 < n ∧ 128 ≤ c3 ∧ c3 ≤ 191
    · right
      have hd : decN n c0 c1 c2 c3 = ((c0 % 8) * 262144 + (c1 % 64) * 4096 + (c2 % 64) * 64 + c3 % 64, 4) := by unfold decN; rw [if_neg r0, if_neg (by omega), if_neg (by omega), if_pos (by omega), if_pos (by omega)]
      rw [hd, if_pos g1.1, if_pos g1.2.1, if_pos g1.2.2]
      exact ⟨by dsimp only; omega, by dsimp only; omega, rfl⟩
    · left
      have hd : decN n c0 c1 c2 c3 = (65533, 1) := by
        unfold decN; rw [if_neg r0, if_neg (by omega), if_neg (by omega)]
        split
        · rw [if_neg (by omega)]
        · rfl
      refine ⟨decN_short _ _ _ _ _ hd, ?_⟩
      by_cases g2 : 1 < n ∧ lo ≤ c1 ∧ c1 ≤ hi
      · rw [if_pos g2]
        by_cases g3 : 2 < n ∧ 128 ≤ c2 ∧ c2 ≤ 191
        · rw [if_pos g3, if_neg (fun g4 => g1 ⟨g2, g3, g4⟩)]
        · rw [if_neg g3]
      · rw [if_neg g2]
  · left
    have hd : decN n c0 c1 c2 c3 = (65533, 1) := by
      unfold decN; rw [if_neg r0, if_neg (by omega), if_neg (by omega)]
      split
      · rw [if_neg (by omega)]
      · rfl
    refine ⟨decN_short _ _ _ _ _ hd, ?_⟩
    have : need c0 = none := by unfold need; rw [if_neg z, if_neg r0, if_neg r1, if_neg r2, if_neg (by omega), if_neg (by omega), if_neg r3, if_neg (by omega), if_neg (by omega), if_neg (by omega)]
    rw [this]

end Go.Proofs.Tp

/- A slice of texts in memory. No program in sight. -/
namespace Go.Proofs.Tp
open Go Go.RowKit

/-- The value reads, in this world, as this list of texts. -/
def StrsAt (w : World) (v : Value) (L : List ByteArray) : Prop :=
  ∃ a cap, v = .slice a L.length cap ∧ L.length ≤ cap ∧ cap ≤ maxLen ∧
    (L = [] ∨ ∃ b off, a = some ⟨b, off, none⟩ ∧ ∀ i x, L[i]? = some x → w.cell? ⟨b, off + i, none⟩ = some (.string x))

theorem StrsAt.nil (w : World) : StrsAt w (.slice none 0 0) [] := ⟨none, 0, rfl, Nat.le_refl _, Nat.zero_le _, .inl rfl⟩

theorem addr_add (g i : Nat) : (⟨g, 0, none⟩ : Addr).add i = ⟨g, 0 + i, none⟩ := by unfold Addr.add; split <;> simp_all

theorem StrsAt.of_owns {w : World} {B e : Nat} {v : Value} {L : List ByteArray} (h : w.ownsRow B e 1 v L.length (L.map Value.string)) : StrsAt w v L := by
  have hc := h
  rcases h.2 with ⟨rfl, h0⟩ | ⟨g, cap, cur, rfl, _, _, hn, hm, _, _⟩
  · have : L = [] := List.eq_nil_of_length_eq_zero h0
    subst this
    exact .nil w
  · refine ⟨_, cap, rfl, hn, hm, ?_⟩
    by_cases hL : L = []
    · exact .inl hL
    · refine .inr ⟨g, 0, rfl, fun i x hx => ?_⟩
      have := hc.cells (g := g) rfl i (.string x) (by rw [List.getElem?_map, hx]; rfl)
      rwa [addr_add] at this

theorem StrsAt.below {w w' : World} {v : Value} {L : List ByteArray} (h : StrsAt w v L) (hb : Below w.heap.size w w') : StrsAt w' v L := by
  obtain ⟨a, cap, rfl, h1, h2, h3⟩ := h
  refine ⟨a, cap, rfl, h1, h2, ?_⟩
  rcases h3 with h3 | ⟨b, off, rfl, hc⟩
  · exact .inl h3
  · refine .inr ⟨b, off, rfl, fun i x hx => ?_⟩
    have := hc i x hx
    rw [hb.cell (World.block_lt_of_cell? w _ this)]
    exact this

theorem StrsAt.open {w : World} {v : Value} {L : List ByteArray} (h : StrsAt w v L) (hL : 0 < L.length) :
    ∃ b off cap, v = .slice (some ⟨b, off, none⟩) L.length cap ∧ L.length ≤ cap ∧ cap ≤ 9223372036854775807 ∧ b < w.heap.size ∧
      ∀ i x, L[i]? = some x → w.cell? ⟨b, off + i, none⟩ = some (.string x) := by
  obtain ⟨a, cap, rfl, h1, h2, h3⟩ := h
  rcases h3 with rfl | ⟨b, off, rfl, hc⟩
  · simp at hL
  · refine ⟨b, off, cap, rfl, h1, h2, ?_, hc⟩
    have h0 := hc 0 L[0] (by simp [hL])
    exact World.block_lt_of_cell? w _ h0

theorem StrsAt.open_nil {w : World} {v : Value} (h : StrsAt w v []) : ∃ a cap, v = .slice a 0 cap := by
  obtain ⟨a, cap, rfl, _⟩ := h
  exact ⟨a, cap, rfl⟩

/-- The rest behind the first k. -/
theorem StrsAt.drop {w : World} {b off cap n : Nat} {L : List ByteArray} (k : Nat) (hk : k ≤ n) (hn : L.length = n) (hc : n ≤ cap) (hm : cap ≤ 9223372036854775807)
    (h : ∀ i x, L[i]? = some x → w.cell? ⟨b, off + i, none⟩ = some (.string x)) (a : Option Addr) (ha : k < n → a = some ⟨b, off + k, none⟩) :
    StrsAt w (.slice a (n - k) (cap - k)) (L.drop k) := by
  refine ⟨a, cap - k, by simp [hn], by simp; omega, by unfold maxLen; omega, ?_⟩
  by_cases hkn : k < n
  · refine .inr ⟨b, off + k, ha hkn, fun i x hx => ?_⟩
    rw [List.getElem?_drop] at hx
    rw [Nat.add_assoc]
    exact h _ x hx
  · exact .inl (List.drop_eq_nil_of_le (by omega))

end Go.Proofs.Tp

/- Plain law: what the layer topic answers, as functions on texts. No program in sight. -/
namespace Go.Proofs.Tp
open Go

theorem extract_drop (s : ByteArray) (i : Nat) : (s.extract i s.size).data.toList = s.data.toList.drop i := by
  rw [Lib.extract_data]
  rw [List.take_of_length_le (by simp)]

/-- Is it a text? -/
def isText (s : ByteArray) : Bool := decide (s.size ≤ 65535) && utf [] s.data.toList

/-- Has it a sign? -/
def signL (l : List UInt8) : Bool := l.any fun c => c == 43 || c == 35
def sign (s : ByteArray) : Bool := signL s.data.toList

def textE (s : ByteArray) : Int := if s.size = 0 then 50 else if isText s then 0 else 51
def chk (s : ByteArray) : Int := if textE s = 0 then (if sign s then 52 else 0) else textE s

/-- A filter's levels: is there one that cannot stand? -/
def badLv : List ByteArray → Bool
  | [] => false
  | x :: r => (sign x && decide (1 < x.size)) || (decide (x.data.toList = [35]) && !r.isEmpty) || badLv r

def chkF (s : ByteArray) : Int := if textE s = 0 then (if badLv (levels s) then 52 else 0) else textE s

theorem textE_nonneg (s : ByteArray) : 0 ≤ textE s := by unfold textE; split <;> (try split) <;> omega
theorem textE_lt (s : ByteArray) : textE s < 60 := by unfold textE; split <;> (try split) <;> omega
theorem chk_nonneg (s : ByteArray) : 0 ≤ chk s := by unfold chk; have := textE_nonneg s; split <;> (try split) <;> omega
theorem chk_lt (s : ByteArray) : chk s < 60 := by unfold chk; have := textE_lt s; split <;> (try split) <;> omega
theorem chkF_nonneg (s : ByteArray) : 0 ≤ chkF s := by unfold chkF; have := textE_nonneg s; split <;> (try split) <;> omega
theorem chkF_lt (s : ByteArray) : chkF s < 60 := by unfold chkF; have := textE_lt s; split <;> (try split) <;> omega

/-- Where the decoding says U+FFFD: it stands there (three bytes), or the byte is amiss. -/
theorem decode_fffd (s : ByteArray) (pos : Nat) (h : pos < s.size) (hc : (Utf8.decode s pos).1 = 65533) :
    Lib.hasPrefix (s.data.toList.drop pos) [239, 191, 189] = !decide ((Utf8.decode s pos).2 = 1) := by
  have b0 := (s.get! pos).toNat_lt; have b1 := (s.get! (pos + 1)).toNat_lt; have b2 := (s.get! (pos + 2)).toNat_lt
  have t0 : ∀ (x y : UInt8), x = y ↔ x.toNat = y.toNat := fun x y => ⟨fun e => by rw [e], UInt8.toNat.inj⟩
  have hp : Lib.hasPrefix (s.data.toList.drop pos) [239, 191, 189] = decide ((s.get! pos).toNat = 239 ∧ pos + 1 < s.size ∧ (s.get! (pos + 1)).toNat = 191 ∧ pos + 2 < s.size ∧ (s.get! (pos + 2)).toNat = 189) := by
    unfold Lib.hasPrefix
    rw [drop_get s pos h]
    by_cases h1 : pos + 1 < s.size
    · rw [drop_get s _ h1]
      by_cases h2 : pos + 2 < s.size
      · rw [drop_get s _ h2, Bool.eq_iff_iff]
        simp only [List.isPrefixOf, Bool.and_true, Bool.and_eq_true, beq_iff_eq, decide_eq_true_eq, h1, h2, true_and]
        rw [t0 239, t0 191, t0 189]
        have e1 : (239 : UInt8).toNat = 239 := rfl
        have e2 : (191 : UInt8).toNat = 191 := rfl
        have e3 : (189 : UInt8).toNat = 189 := rfl
        rw [e1, e2, e3]
        omega
      · rw [drop_end s _ h2]
        have : ¬ ((s.get! pos).toNat = 239 ∧ pos + 1 < s.size ∧ (s.get! (pos + 1)).toNat = 191 ∧ pos + 2 < s.size ∧ (s.get! (pos + 2)).toNat = 189) := by omega
        rw [decide_eq_false this]
        simp [List.isPrefixOf]
    · rw [drop_end s _ h1]
      have : ¬ ((s.get! pos).toNat = 239 ∧ pos + 1 < s.size ∧ (s.get! (pos + 1)).toNat = 191 ∧ pos + 2 < s.size ∧ (s.get! (pos + 2)).toNat = 189) := by omega
      rw [decide_eq_false this]
      simp [List.isPrefixOf]
  rw [hp]
  rw [decode_eq s pos h] at hc ⊢
  obtain ⟨n, hn⟩ : ∃ n, n = s.size - pos := ⟨_, rfl⟩
  rw [← hn] at hc ⊢
  have e1 : (pos + 1 < s.size) = (1 < n) := by simp; omega
  have e2 : (pos + 2 < s.size) = (2 < n) := by simp; omega
  simp only [e1, e2]
  clear hp e1 e2 hn h
  generalize (s.get! pos).toNat = c0 at *
  generalize (s.get! (pos + 1)).toNat = c1 at *
  generalize (s.get! (pos + 2)).toNat = c2 at *
  generalize (s.get! (pos + 3)).toNat = c3 at *
  by_cases q : c0 = 239 ∧ 1 < n ∧ c1 = 191 ∧ 2 < n ∧ c2 = 189
  · rw [decide_eq_true q]
    obtain ⟨rfl, q1, rfl, q2, rfl⟩ := q
    have : decN n 239 191 189 c3 = (65533, 3) := by simp [decN, q1, q2]
    rw [this]; rfl
  · rw [decide_eq_false q]
    have : (decN n c0 c1 c2 c3).2 = 1 := by
      unfold decN at hc ⊢
      split
      · rfl
      · rename_i g0
        rw [if_neg g0] at hc
        split
        · rename_i g1
          rw [if_pos g1] at hc
          split
          · rename_i g2; rw [if_pos g2] at hc; simp only at hc; omega
          · rfl
        · rename_i g1
          rw [if_neg g1] at hc
          split
          · rename_i g2
            rw [if_pos g2] at hc
            split
            · rename_i g3; rw [if_pos g3] at hc; simp only at hc; omega
            · rfl
          · rename_i g2
            rw [if_neg g2] at hc
            split
            · rename_i g3
              rw [if_pos g3] at hc
              split
              · rename_i g4; rw [if_pos g4] at hc; simp only at hc; omega
              · rfl
            · rfl
    rw [this]; rfl

/-- Where a decoding tells no sign, the bytes that it takes are none; where it tells one, there is one. -/
theorem sign_step (s : ByteArray) (pos : Nat) (h : pos < s.size) (h1 : (Utf8.decode s pos).1 ≠ 43) (h2 : (Utf8.decode s pos).1 ≠ 35) :
    signL (s.data.toList.drop pos) = signL (s.data.toList.drop (pos + (Utf8.decode s pos).2)) := by
  have a := (decode_byte s pos h 43 (by decide))
  have b := (decode_byte s pos h 35 (by decide))
  have a1 := a.1.resolve_left (fun x => h1 x.1)
  have b1 := b.1.resolve_left (fun x => h2 x.1)
  have key : ∀ w, (∀ j, j < w → s.data.toList[pos + j]? ≠ some 43) → (∀ j, j < w → s.data.toList[pos + j]? ≠ some 35) → signL (s.data.toList.drop pos) = signL (s.data.toList.drop (pos + w)) := by
    intro w ha hb
    induction w with
    | zero => rfl
    | succ w ih =>
      rw [ih (fun j hj => ha j (by omega)) (fun j hj => hb j (by omega))]
      by_cases hp : pos + w < s.size
      · rw [drop_get s (pos + w) hp, ← Nat.add_assoc]
        have g := get_toList s (pos + w) hp
        have n1 : s.get! (pos + w) ≠ 43 := fun e => ha w (by omega) (by rw [g, e])
        have n2 : s.get! (pos + w) ≠ 35 := fun e => hb w (by omega) (by rw [g, e])
        simp [signL, n1, n2]
      · rw [drop_end s _ hp, drop_end s _ (by omega)]
  exact key _ a1.2 b1.2

theorem sign_here (s : ByteArray) (pos : Nat) (h : pos < s.size) (h1 : (Utf8.decode s pos).1 = 43 ∨ (Utf8.decode s pos).1 = 35) : signL (s.data.toList.drop pos) = true := by
  rw [drop_get s pos h]
  rcases h1 with h1 | h1
  · have a := (decode_byte s pos h 43 (by decide)).1.resolve_right (fun x => x.1 h1)
    have g := get_toList s pos h
    rw [a.2.2] at g
    rw [← Option.some.inj g]; rfl
  · have a := (decode_byte s pos h 35 (by decide)).1.resolve_right (fun x => x.1 h1)
    have g := get_toList s pos h
    rw [a.2.2] at g
    rw [← Option.some.inj g]; rfl

theorem indexAny_sign : ∀ l : List UInt8, decide (0 ≤ Lib.indexAny l [43, 35]) = signL l
  | [] => rfl
  | c :: l => by
    have ih := indexAny_sign l
    have hg := Lib.indexAny_ge [43, 35] l
    unfold Lib.indexAny
    by_cases h : [43, 35].contains c = true
    · rw [if_pos h]
      have : signL (c :: l) = true := by
        simp only [List.contains_cons, List.contains_nil, Bool.or_false, Bool.or_eq_true, beq_iff_eq] at h
        rcases h with rfl | rfl <;> rfl
      rw [this]; rfl
    · rw [if_neg h]
      have : signL (c :: l) = signL l := by
        simp only [List.contains_cons, List.contains_nil, Bool.or_false, Bool.or_eq_true, beq_iff_eq, not_or] at h
        simp [signL, h.1, h.2]
      rw [this, ← ih]
      by_cases h0 : 0 ≤ Lib.indexAny l [43, 35]
      · have : (Lib.indexAny l [43, 35] == -1) = false := by rw [beq_eq_false_iff_ne]; omega
        rw [this]; simp only [Bool.false_eq_true, if_false]
        rw [decide_eq_true h0, decide_eq_true (by omega)]
      · have : (Lib.indexAny l [43, 35] == -1) = true := by rw [beq_iff_eq]; omega
        rw [this]; simp only [if_true]
        rw [decide_eq_false h0]; rfl

/-- Two texts, byte by byte. -/
def cmpB (x y : ByteArray) : Int := if x.data.toList < y.data.toList then -1 else if y.data.toList < x.data.toList then 1 else 0

/-- Lists of texts, one by one. -/
def cmpL : List ByteArray → List ByteArray → Int
  | [], [] => 0
  | [], _ :: _ => -1
  | _ :: _, [] => 1
  | x :: a, y :: b => if cmpB x y = 0 then cmpL a b else cmpB x y

def cmpT (a b : ByteArray) : Int := cmpL (levels a) (levels b)

/-- Do a filter's levels match a topic's? -/
def goesL : List ByteArray → List ByteArray → Bool
  | [], t => t.isEmpty
  | f :: fs, t => if f.data.toList = [35] then true else
    match t with
    | [] => false
    | x :: ts => if f.data.toList = [43] ∨ f = x then goesL fs ts else false

def mkB (l : List UInt8) : ByteArray := ⟨l.toArray⟩

/-- Levels as a text. -/
def joinT (L : List ByteArray) : ByteArray := ⟨(Lib.join (L.map (·.data.toList)) [47]).toArray⟩

/-- A shared filter's group and inner filter. -/
def shared (s : ByteArray) : Option (ByteArray × ByteArray) :=
  match levels s with
  | a :: g :: x :: r =>
    if a.data.toList = [36, 115, 104, 97, 114, 101] ∧ chk g = 0 ∧ chkF (joinT (x :: r)) = 0 ∧ chkF s = 0 then some (g, joinT (x :: r)) else none
  | _ => none

/-- Does a filter match a topic? -/
def matchT (f t : ByteArray) : Bool :=
  if (shared f).isSome ∨ chkF f ≠ 0 ∨ chk t ≠ 0 then false
  else if t.data.toList.head? = some 36 ∧ ((levels f).head?.map (·.data.toList) = some [43] ∨ (levels f).head?.map (·.data.toList) = some [35]) then false
  else goesL (levels f) (levels t)

end Go.Proofs.Tp

/- Plain law: levels and their texts. No program in sight. -/
namespace Go.Proofs.Tp
open Go

/-- A text cut at its slashes. -/
def split : List UInt8 → List (List UInt8)
  | [] => [[]]
  | c :: r => if c = 47 then [] :: split r else match split r with | [] => [[c]] | h :: t => (c :: h) :: t

theorem split_cons (c : UInt8) (r : List UInt8) : split (c :: r) = if c = 47 then [] :: split r else match split r with | [] => [[c]] | h :: t => (c :: h) :: t := by rw [split]

theorem split_ne (l : List UInt8) : split l ≠ [] := by
  cases l with
  | nil => simp [split]
  | cons c r => unfold split; split <;> (try split) <;> simp

theorem split_plain : ∀ (a : List UInt8), 47 ∉ a → split a = [a]
  | [], _ => rfl
  | c :: r, h => by
    have h1 : c ≠ 47 := fun e => h (by rw [e]; exact List.mem_cons_self)
    have ih := split_plain r (fun e => h (List.mem_cons_of_mem _ e))
    unfold split
    rw [if_neg h1, ih]

theorem split_cut : ∀ (a b : List UInt8), split (a ++ 47 :: b) = split a ++ split b
  | [], b => by simp [split]
  | c :: r, b => by
    have ih := split_cut r b
    rw [List.cons_append, split_cons, split_cons]
    by_cases h : c = 47
    · rw [if_pos h, if_pos h, ih]; rfl
    · rw [if_neg h, if_neg h, ih]
      cases hs : split r with
      | nil => exact absurd hs (split_ne r)
      | cons x t => rfl

theorem join_split : ∀ (l : List UInt8), Lib.join (split l) [47] = l
  | [] => rfl
  | c :: r => by
    have ih := join_split r
    unfold split
    by_cases h : c = 47
    · rw [if_pos h, h]
      cases hs : split r with
      | nil => exact absurd hs (split_ne r)
      | cons x t =>
        rw [hs] at ih
        rw [Lib.join_cons] at ih ⊢
        simp only [Lib.joinTail, List.map_cons, List.flatten_cons, List.nil_append, List.cons_append] at ih ⊢
        rw [ih]
    · rw [if_neg h]
      cases hs : split r with
      | nil => exact absurd hs (split_ne r)
      | cons x t =>
        rw [hs] at ih
        rw [Lib.join_cons] at ih ⊢
        rw [List.cons_append, ih]

/-- No level bears a slash. -/
theorem split_noslash : ∀ (l x : List UInt8), x ∈ split l → 47 ∉ x
  | [], x, h => by simp [split] at h; subst h; simp
  | c :: r, x, h => by
    unfold split at h
    by_cases hc : c = 47
    · rw [if_pos hc] at h
      rcases List.mem_cons.1 h with rfl | h
      · simp
      · exact split_noslash r x h
    · rw [if_neg hc] at h
      cases hs : split r with
      | nil => exact absurd hs (split_ne r)
      | cons y t =>
        rw [hs] at h
        rcases List.mem_cons.1 h with rfl | h
        · intro hm
          rcases List.mem_cons.1 hm with e | hm
          · exact hc e.symm
          · exact split_noslash r y (by rw [hs]; exact List.mem_cons_self) hm
        · exact split_noslash r x (by rw [hs]; exact List.mem_cons_of_mem _ h)

theorem split_join : ∀ (L : List (List UInt8)), L ≠ [] → (∀ x, x ∈ L → 47 ∉ x) → split (Lib.join L [47]) = L
  | [], h, _ => absurd rfl h
  | [x], _, h => by rw [Lib.join_one]; exact split_plain x (h x List.mem_cons_self)
  | x :: y :: r, _, h => by
    have ih := split_join (y :: r) (by simp) (fun z hz => h z (List.mem_cons_of_mem _ hz))
    have e : Lib.join (x :: y :: r) [47] = x ++ 47 :: Lib.join (y :: r) [47] := by
      rw [Lib.join_cons, Lib.join_cons]; simp [Lib.joinTail]
    rw [e, split_cut, ih, split_plain x (h x List.mem_cons_self)]
    rfl

theorem lvTo_split (s : ByteArray) : ∀ n, n ≤ s.size →
    split s.data.toList = (lvTo s n).1.map (·.data.toList) ++ split (s.data.toList.drop (lvTo s n).2) ∧ 47 ∉ (s.data.toList.drop (lvTo s n).2).take (n - (lvTo s n).2)
  | 0, _ => by simp [lvTo]
  | n + 1, hn => by
    obtain ⟨h1, h2⟩ := lvTo_split s n (by omega)
    have hle := (lvTo_le s n).1
    have hlen : s.data.toList.length = s.size := by simp
    rw [lvTo_succ]
    unfold lvStep
    generalize lvTo s n = st at *
    obtain ⟨D, f⟩ := st
    simp only at h1 h2 hle ⊢
    have hd : (s.data.toList.drop f) = (s.data.toList.drop f).take (n - f) ++ s.data.toList.drop n := by
      have := List.take_append_drop (n - f) (s.data.toList.drop f)
      rw [List.drop_drop, show f + (n - f) = n from by omega] at this
      exact this.symm
    have hg : s.data.toList.drop n = s.get! n :: s.data.toList.drop (n + 1) := drop_get s n (by omega)
    by_cases h47 : s.data.toList[n]? = some 47
    · rw [if_pos h47]
      have hg47 : s.get! n = 47 := by
        have := get_toList s n (by omega)
        rw [h47] at this
        exact (Option.some.inj this).symm
      rw [hg, hg47] at hd
      refine ⟨?_, by simp⟩
      simp only
      rw [h1]
      conv => lhs; rw [hd]
      rw [split_cut, split_plain _ h2, List.map_append, List.map_cons, List.map_nil, Lib.extract_data, List.append_assoc]
    · rw [if_neg h47]
      refine ⟨h1, ?_⟩
      simp only
      intro hm
      rw [hd, hg] at hm
      have hl : ((s.data.toList.drop f).take (n - f)).length = n - f := by simp; omega
      rw [show n + 1 - f = (n - f) + 1 from by omega, List.take_append, hl, show n - f + 1 - (n - f) = 1 from by omega, List.mem_append] at hm
      rcases hm with hm | hm
      · exact h2 (List.mem_of_mem_take hm)
      · simp only [List.take_succ_cons, List.take_zero, List.mem_cons, List.not_mem_nil, or_false] at hm
        exact h47 (by rw [get_toList s n (by omega), ← hm])

/-- The levels, as lists of bytes. -/
theorem levels_split (s : ByteArray) : (levels s).map (·.data.toList) = split s.data.toList := by
  obtain ⟨h1, h2⟩ := lvTo_split s s.size (Nat.le_refl _)
  have hle := (lvTo_le s s.size).1
  rw [List.take_of_length_le (by simp)] at h2
  rw [h1, split_plain _ h2]
  unfold levels
  rw [List.map_append, List.map_cons, List.map_nil, extract_drop]

theorem join_levels (s : ByteArray) : Lib.join ((levels s).map (·.data.toList)) [47] = s.data.toList := by rw [levels_split, join_split]

theorem joinT_levels (s : ByteArray) : joinT (levels s) = s := by
  unfold joinT; rw [join_levels]

theorem joinT_data (L : List ByteArray) : (joinT L).data.toList = Lib.join (L.map (·.data.toList)) [47] := rfl

theorem size_eq (s : ByteArray) : s.size = s.data.toList.length := by simp

/-- What stands behind the first two levels is no longer than the whole. -/
theorem inner_size (s : ByteArray) (a g x : ByteArray) (r : List ByteArray) (h : levels s = a :: g :: x :: r) : (joinT (x :: r)).size + 2 ≤ s.size ∧ g.size + 2 ≤ s.size := by
  have hj := join_levels s
  rw [h] at hj
  have e : Lib.join (List.map (·.data.toList) (a :: g :: x :: r)) [47] = a.data.toList ++ 47 :: (g.data.toList ++ 47 :: Lib.join (List.map (·.data.toList) (x :: r)) [47]) := by
    simp only [List.map_cons]
    rw [Lib.join_cons, Lib.join_cons]; simp [Lib.joinTail]
  rw [e] at hj
  rw [size_eq, size_eq, size_eq g, joinT_data, ← hj]
  simp only [List.length_append, List.length_cons]
  omega

theorem need_high {c : Nat} {p : List (Nat × Nat)} (h : need c = some p) : ∀ x, x ∈ p → 128 ≤ x.1 := by
  unfold need at h
  repeat' split at h
  all_goals first
    | (cases h; done)
    | (injection h with h; subst h; intro x hx; simp at hx; done)
    | (injection h with h; subst h; intro x hx; simp at hx; rcases hx with rfl | rfl | rfl <;> decide)
    | (injection h with h; subst h; intro x hx; simp at hx; rcases hx with rfl | rfl <;> decide)
    | (injection h with h; subst h; intro x hx; simp at hx; subst hx; decide)

theorem utf_cut : ∀ (a b : List UInt8) (p : List (Nat × Nat)), (∀ x, x ∈ p → 128 ≤ x.1) → utf p (a ++ 47 :: b) = (utf p a && utf [] b)
  | [], b, [], _ => by rw [List.nil_append, utf_nil]; rfl
  | [], b, q :: p, h => by
    rw [List.nil_append, utf_cons, utf_short]
    have := h q List.mem_cons_self
    have e : (47 : UInt8).toNat = 47 := rfl
    rw [e, decide_eq_false (by omega)]; rfl
  | c :: a, b, [], _ => by
    rw [List.cons_append, utf_nil, utf_nil]
    cases hn : need c.toNat with
    | none => rfl
    | some p => exact utf_cut a b p (need_high hn)
  | c :: a, b, q :: p, h => by
    rw [List.cons_append, utf_cons, utf_cons, utf_cut a b p (fun x hx => h x (List.mem_cons_of_mem _ hx)), Bool.and_assoc, Bool.and_assoc, Bool.and_assoc]

theorem utf_levels : ∀ (L : List (List UInt8)), L ≠ [] → (utf [] (Lib.join L [47]) = L.all (utf []))
  | [], h => absurd rfl h
  | [x], _ => by rw [Lib.join_one]; simp
  | x :: y :: r, _ => by
    have e : Lib.join (x :: y :: r) [47] = x ++ 47 :: Lib.join (y :: r) [47] := by
      rw [Lib.join_cons, Lib.join_cons]; simp [Lib.joinTail]
    rw [e, utf_cut x _ [] (fun _ h => by cases h), utf_levels (y :: r) (by simp)]
    rfl

theorem part_len (L : List (List UInt8)) : ∀ (y : List UInt8), y ∈ L → y.length ≤ (Lib.join L [47]).length := by
  induction L with
  | nil => intro y hy; simp at hy
  | cons z r ih =>
    intro y hy
    rcases List.mem_cons.1 hy with rfl | hy
    · rw [Lib.join_cons]; simp
    · cases r with
      | nil => simp at hy
      | cons z2 r2 =>
        have := ih y hy
        rw [Lib.join_cons] at this ⊢
        simp only [Lib.joinTail, List.map_cons, List.flatten_cons, List.length_append, List.length_cons, List.length_nil] at this ⊢
        omega

/-- The levels of a text are texts. -/
theorem isText_level {s x : ByteArray} (h : isText s = true) (hx : x ∈ levels s) : isText x = true := by
  unfold isText at h ⊢
  rw [Bool.and_eq_true, decide_eq_true_eq] at h ⊢
  have hm : x.data.toList ∈ (levels s).map (·.data.toList) := List.mem_map_of_mem hx
  have hj := join_levels s
  constructor
  · have := part_len _ _ hm
    rw [hj, ← size_eq, ← size_eq] at this
    omega
  · have hne : (levels s).map (·.data.toList) ≠ [] := by intro e; rw [e] at hm; cases hm
    have := utf_levels _ hne
    rw [hj, h.2] at this
    exact List.all_eq_true.1 this.symm _ hm

theorem chkF_zero {s : ByteArray} (h : chkF s = 0) : s.size ≠ 0 ∧ isText s = true ∧ badLv (levels s) = false := by
  unfold chkF textE at h
  by_cases h0 : s.size = 0
  · rw [if_pos h0] at h; simp at h
  · rw [if_neg h0] at h
    cases ht : isText s with
    | false => rw [ht] at h; simp at h
    | true =>
      rw [ht] at h
      cases hb : badLv (levels s) with
      | false => exact ⟨h0, rfl, rfl⟩
      | true => rw [hb] at h; simp at h

theorem chk_zero {s : ByteArray} : chk s = 0 ↔ s.size ≠ 0 ∧ isText s = true ∧ sign s = false := by
  unfold chk textE
  by_cases h0 : s.size = 0
  · simp [h0]
  · cases ht : isText s <;> cases hs : sign s <;> simp [h0]

/-- In a filter the first byte is a sign just where the first level is that sign. -/
theorem first_sign {f x : ByteArray} {r : List ByteArray} (h : chkF f = 0) (hx : levels f = x :: r) (hp : 0 < f.size) (k : UInt8) (hk : k = 43 ∨ k = 35) :
    x.data.toList = [k] ↔ f[0] = k := by
  have hb := (chkF_zero h).2.2
  have hsp := levels_split f
  rw [hx] at hb hsp
  have hd := drop_get f 0 hp
  rw [List.drop_zero] at hd
  have hg : f.get! 0 = f[0] := by
    have h1 := get_toList f 0 hp
    have hl : 0 < f.data.toList.length := by simpa using hp
    rw [List.getElem?_eq_getElem hl] at h1
    exact (Option.some.inj h1).symm
  rw [hg] at hd
  rw [hd, split_cons, List.map_cons] at hsp
  have hk47 : k ≠ 47 := by rcases hk with rfl | rfl <;> decide
  have hks : ∀ t, signL (k :: t) = true := by intro t; rcases hk with rfl | rfl <;> simp [signL]
  by_cases h47 : f[0] = 47
  · rw [if_pos h47] at hsp
    injection hsp with h1 _
    rw [h1, h47]
    constructor
    · intro e; cases e
    · intro e; exact absurd e.symm hk47
  · rw [if_neg h47] at hsp
    cases hs : split (f.data.toList.drop (0 + 1)) with
    | nil => exact absurd hs (split_ne _)
    | cons y t =>
      rw [hs] at hsp
      injection hsp with h1 _
      rw [h1]
      constructor
      · intro e; injection e
      · intro e
        rw [e] at h1 ⊢
        have hsz : ¬ (1 < x.size) := by
          intro hlt
          have : badLv (x :: r) = true := by
            show ((sign x && decide (1 < x.size)) || _ || _) = true
            have : sign x = true := by unfold sign; rw [h1]; exact hks y
            rw [this, decide_eq_true hlt]; rfl
          rw [this] at hb; cases hb
        rw [size_eq, h1, List.length_cons] at hsz
        rw [List.eq_nil_of_length_eq_zero (show y.length = 0 by omega)]

theorem goesL_hash {f : ByteArray} {F T : List ByteArray} (h : f.data.toList = [35]) : goesL (f :: F) T = true := by unfold goesL; rw [if_pos h]
theorem goesL_short {f : ByteArray} {F : List ByteArray} (h : ¬ f.data.toList = [35]) : goesL (f :: F) [] = false := by unfold goesL; rw [if_neg h]
theorem goesL_on {f x : ByteArray} {F T : List ByteArray} (h : ¬ f.data.toList = [35]) (h2 : f.data.toList = [43] ∨ f = x) : goesL (f :: F) (x :: T) = goesL F T := by rw [goesL]; rw [if_neg h, if_pos h2]
theorem goesL_off {f x : ByteArray} {F T : List ByteArray} (h : ¬ f.data.toList = [35]) (h2 : ¬ f.data.toList = [43]) (h3 : ¬ f = x) : goesL (f :: F) (x :: T) = false := by
  rw [goesL]; rw [if_neg h, if_neg (by rintro (e | e); exact h2 e; exact h3 e)]

end Go.Proofs.Tp

/- Proved here: the contract of wire.Check. -/
namespace Go.Proofs.YtgnffkahlniehaaGreat
open Go.RowKit Go.Proofs.Tp

set_option maxHeartbeats 400000 in
set_option maxRecDepth 100000 in
/-- 'wire.Check': its second result is 0 just where the text is well-formed. -/
theorem wireCheck_any (s : ByteArray) (w : World) (hs : s.size ≤ 1000000000) :
    Calls Tryz.prog 76 #[.string s] w fun e w' => ∃ n c : Int, e = .returned (.tuple #[.int .i64 n, .int .i64 c]) ∧ (c == 0) = isText s ∧ Below w.heap.size w w' := by
  by_cases hl : s.size ≤ 65535
  · go_enter Tryz.func76, Tryz.ntmps76
    go_wp2
    go_loopw [] (fun wr => ∃ pos, pos ≤ s.size ∧ wr.heap[w.heap.size]? = some (.stringIter s pos) ∧ utf [] (s.data.toList.drop pos) = utf [] s.data.toList ∧ Below w.heap.size w wr) (fun wr => s.size - wr.iterPos w.heap.size)
    case atStart => exact ⟨0, Nat.zero_le _, by simp [World.iter_heap], rfl, (Below.refl _ _).alloc (Nat.le_refl _) _⟩
    case round =>
      obtain ⟨pos, hpos, hit, hu, hbel⟩ := hrel
      have HU := Lib.hid hu
      clear hu
      have HIP := Lib.hid (iterPos_of hit)
      by_cases hp : pos < s.size
      · have hnx : ∀ ty, (Instr.next (.pointer (some ⟨w.heap.size, 0, none⟩)) true ty).run Tryz.prog wr = _ := fun ty => Lib.run_next_any_at wr _ s pos ty hit hp
        have hdu := decode_utf s pos hp
        have hdb := (decode_byte s pos hp 47 (by decide)).2
        have hbel' := Lib.below_iterAt hbel (Nat.le_refl _) s (pos + (Utf8.decode s pos).2)
        have hit' := Lib.iterAt_heap wr w.heap.size s pos (pos + (Utf8.decode s pos).2) hit
        generalize wr.iterAt w.heap.size s (pos + (Utf8.decode s pos).2) = wi at *
        have HIT := Lib.hid hit'
        clear hit hit'
        by_cases z : (Utf8.decode s pos).1 = 0
        · have hz : (((Utf8.decode s pos).1 : Int) == 0) = true := by rw [z]; rfl
          have hf : utf [] s.data.toList = false := by
            rcases hdu with h | h
            · rw [← HU.out]; exact h.2
            · exact absurd z h.1
          have HF := Lib.hid hf
          clear z hdu hf
          go_wp2
          go_ret2
          exact ⟨_, _, rfl, by simp [isText, HF.out], hbel'⟩
        · have hz : (((Utf8.decode s pos).1 : Int) == 0) = false := by rw [beq_eq_false_iff_ne]; omega
          by_cases z2 : (Utf8.decode s pos).1 = 65533
          · have hz2 : (((Utf8.decode s pos).1 : Int) == 65533) = true := by rw [z2]; rfl
            have hpre := decode_fffd s pos hp z2
            have hext : List.take (s.size - pos) (List.drop pos s.data.toList) = s.data.toList.drop pos := List.take_of_length_le (by simp)
            by_cases z3 : (Utf8.decode s pos).2 = 1
            · have hP : Lib.hasPrefix (List.take (s.size - pos) (List.drop pos s.data.toList)) [239, 191, 189] = false := by rw [hext, hpre, z3]; rfl
              have hf : utf [] s.data.toList = false := by
                rcases hdu with h | h
                · rw [← HU.out]; exact h.2
                · exact absurd ⟨z2, z3⟩ h.2.1
              have HF := Lib.hid hf
              clear z z2 z3 hdu hf hpre hext
              go_wp2_with (go_at_call 88; refine (Tryz.strings_HasPrefix _ _ _).mono ?_; rintro e w' ⟨rfl, rfl⟩)
              go_ret2
              exact ⟨_, _, rfl, by simp [isText, HF.out], hbel'⟩
            · have hP : Lib.hasPrefix (List.take (s.size - pos) (List.drop pos s.data.toList)) [239, 191, 189] = true := by rw [hext, hpre, decide_eq_false z3]; rfl
              have hf : utf [] (s.data.toList.drop (pos + (Utf8.decode s pos).2)) = utf [] s.data.toList := by
                rw [← HU.out]
                rcases hdu with h | h
                · rcases h.1 with h | h
                  · exact absurd h z
                  · exact absurd h.2 z3
                · exact h.2.2.symm
              have HF := Lib.hid hf
              clear z z2 z3 hdu hf hpre hext
              go_wp2_with (go_at_call 88; refine (Tryz.strings_HasPrefix _ _ _).mono ?_; rintro e w' ⟨rfl, rfl⟩)
              go_roundw
              case rel => exact ⟨_, hdb.2, HIT.out, HF.out, hbel'⟩
              case measure => rw [iterPos_of HIT.out, HIP.out]; omega
          · have hz2 : (((Utf8.decode s pos).1 : Int) == 65533) = false := by rw [beq_eq_false_iff_ne]; omega
            have hf : utf [] (s.data.toList.drop (pos + (Utf8.decode s pos).2)) = utf [] s.data.toList := by
              rw [← HU.out]
              rcases hdu with h | h
              · rcases h.1 with h | h
                · exact absurd h z
                · exact absurd h.1 z2
              · exact h.2.2.symm
            have HF := Lib.hid hf
            clear z z2 hdu hf
            go_wp2
            go_roundw
            case rel => exact ⟨_, hdb.2, HIT.out, HF.out, hbel'⟩
            case measure => rw [iterPos_of HIT.out, HIP.out]; omega
      · have hnx : ∀ ty, (Instr.next (.pointer (some ⟨w.heap.size, 0, none⟩)) true ty).run Tryz.prog wr = _ := fun ty => Lib.run_next_end_at wr _ s pos ty hit hp
        have hf : utf [] s.data.toList = true := by rw [← HU.out, drop_end s pos hp]; rfl
        have HF := Lib.hid hf
        clear hf
        go_wp2
        go_ret2
        exact ⟨_, _, rfl, by simp [isText, HF.out, hl], hbel⟩
  · go_enter Tryz.func76, Tryz.ntmps76
    go_wp2
    go_ret2
    exact ⟨_, _, rfl, by simp [isText, hl], Below.refl _ _⟩
end Go.Proofs.YtgnffkahlniehaaGreat

/- Proved here: the contracts of strings.IndexRune, IndexAny and ContainsAny at the signs + and #. -/
namespace Go.Proofs.YtgnffkahlniehaaGreat
open Go.RowKit Go.Proofs.Tp

theorem ret_bool {a b : Bool} (h : a = b) : Ending.returned (.bool a) = .returned (.bool b) := by rw [h]

theorem dec_sign0 : Utf8.decode ⟨#[43, 35]⟩ 0 = (43, 1) := by decide +kernel
theorem dec_sign1 : Utf8.decode ⟨#[43, 35]⟩ 1 = (35, 1) := by decide +kernel

set_option maxHeartbeats 400000 in
set_option maxRecDepth 1000000 in
theorem runeIn_fffd (w : World) :
    Calls Tryz.prog 89 #[.string ⟨#[43, 35]⟩, .int .i32 65533] w fun e w' => e = .returned (.int .i64 (-1)) ∧ Below w.heap.size w w' := by
  go_enter Tryz.func89, Tryz.ntmps89
  go_wp2_with fail
  go_loopw [] (fun wr => ∃ pos, pos ≤ 2 ∧ wr.heap[w.heap.size]? = some (.stringIter ⟨#[43, 35]⟩ pos) ∧ Below w.heap.size w wr) (fun wr => 2 - wr.iterPos w.heap.size)
  case atStart => exact ⟨0, by omega, by simp [World.iter_heap], (Below.refl _ _).alloc (Nat.le_refl _) _⟩
  case round =>
    obtain ⟨pos, hpos, hit, hbel⟩ := hrel
    have HIP := Lib.hid (iterPos_of hit)
    have hbel' := fun n => Lib.below_iterAt hbel (Nat.le_refl _) ⟨#[43, 35]⟩ n
    have hit' := fun n => Lib.iterAt_heap wr w.heap.size ⟨#[43, 35]⟩ pos n hit
    have h012 : pos = 0 ∨ pos = 1 ∨ pos = 2 := by omega
    rcases h012 with rfl | rfl | rfl
    · have hnx : ∀ ty, (Instr.next (.pointer (some ⟨w.heap.size, 0, none⟩)) true ty).run Tryz.prog wr = .ok (.tuple #[.bool true, .int .i64 0, .int .i32 43]) (wr.iterAt w.heap.size ⟨#[43, 35]⟩ 1) := fun ty => by
        rw [Lib.run_next_any_at wr _ ⟨#[43, 35]⟩ 0 ty hit (by decide), dec_sign0]; rfl
      have hb1 := hbel' 1
      have HT := Lib.hid (hit' 1)
      clear hit hit' hbel'
      generalize wr.iterAt w.heap.size ⟨#[43, 35]⟩ 1 = wi at *
      go_wp2
      go_roundw
      case rel => exact ⟨1, by omega, HT.out, hb1⟩
      case measure => rw [iterPos_of HT.out, HIP.out]; omega
    · have hnx : ∀ ty, (Instr.next (.pointer (some ⟨w.heap.size, 0, none⟩)) true ty).run Tryz.prog wr = .ok (.tuple #[.bool true, .int .i64 1, .int .i32 35]) (wr.iterAt w.heap.size ⟨#[43, 35]⟩ 2) := fun ty => by
        rw [Lib.run_next_any_at wr _ ⟨#[43, 35]⟩ 1 ty hit (by decide), dec_sign1]; rfl
      have hb1 := hbel' 2
      have HT := Lib.hid (hit' 2)
      clear hit hit' hbel'
      generalize wr.iterAt w.heap.size ⟨#[43, 35]⟩ 2 = wi at *
      go_wp2
      go_roundw
      case rel => exact ⟨2, by omega, HT.out, hb1⟩
      case measure => rw [iterPos_of HT.out, HIP.out]; omega
    · have hnx : ∀ ty, (Instr.next (.pointer (some ⟨w.heap.size, 0, none⟩)) true ty).run Tryz.prog wr = .ok (.tuple #[.bool false]) wr := fun ty => Lib.run_next_end_at wr _ ⟨#[43, 35]⟩ 2 ty hit (by decide)
      clear hit hit' hbel'
      go_wp2
      go_ret
      exact ⟨rfl, hbel⟩

theorem idxByte_nil (s : ByteArray) (b : Int) (h : s.data.toList = []) (w : World) :
    Calls Tryz.prog 101 #[.string s, .int .u8 b] w fun e w' => e = .returned (.int .i64 (-1)) ∧ w' = w :=
  (Tryz.strings_IndexByte s b w).mono fun e w' ⟨he, hw⟩ => ⟨by rw [he, h]; rfl, hw⟩

theorem quiet_add_same {P : Program} {f : FuncId} {args : Array Value} {w : World} {a n : Nat} {v : Value}
    (h : Calls P f args (w.drewN (a + n)) fun e w' => e = .returned v ∧ w' = w.drewN (a + n)) :
    Calls P f args (w.drewN (a + n)) fun e w'' => e = .returned v ∧ ∃ m, w'' = w.drewN (a + m) :=
  h.mono fun _ _ ⟨he, hm⟩ => ⟨he, n, hm⟩

theorem encode_two (c : Nat) (h1 : 128 ≤ c) (h2 : c < 2048) : ∃ x y : UInt8, Utf8.encode (c : Int) = ⟨#[x, y]⟩ ∧ 128 ≤ y.toNat := by
  refine ⟨UInt8.ofNat (0xC0 + c / 64), UInt8.ofNat (0x80 + c % 64), ?_, ?_⟩
  · have hv : Utf8.valid (c : Int) = true := (valid_nat c).2 (by omega)
    simp only [Utf8.encode, hv, if_true, Int.toNat_natCast]
    rw [if_neg (by omega), if_pos (by omega)]
  · rw [UInt8.toNat_ofNat']; omega

theorem encode_more (c : Nat) (h2 : 2048 ≤ c) : 3 ≤ (Utf8.encode (c : Int)).size ∧ (Utf8.encode (c : Int)).size ≤ 4 := by
  have key : ∀ d : Nat, 2048 ≤ d → 3 ≤ (if d < 0x80 then (⟨#[UInt8.ofNat d]⟩ : ByteArray)
      else if d < 0x800 then ⟨#[UInt8.ofNat (0xC0 + d / 64), UInt8.ofNat (0x80 + d % 64)]⟩
      else if d < 0x10000 then ⟨#[UInt8.ofNat (0xE0 + d / 4096), UInt8.ofNat (0x80 + d / 64 % 64), UInt8.ofNat (0x80 + d % 64)]⟩
      else ⟨#[UInt8.ofNat (0xF0 + d / 262144), UInt8.ofNat (0x80 + d / 4096 % 64), UInt8.ofNat (0x80 + d / 64 % 64), UInt8.ofNat (0x80 + d % 64)]⟩).size ∧ (if d < 0x80 then (⟨#[UInt8.ofNat d]⟩ : ByteArray)
      else if d < 0x800 then ⟨#[UInt8.ofNat (0xC0 + d / 64), UInt8.ofNat (0x80 + d % 64)]⟩
      else if d < 0x10000 then ⟨#[UInt8.ofNat (0xE0 + d / 4096), UInt8.ofNat (0x80 + d / 64 % 64), UInt8.ofNat (0x80 + d % 64)]⟩
      else ⟨#[UInt8.ofNat (0xF0 + d / 262144), UInt8.ofNat (0x80 + d / 4096 % 64), UInt8.ofNat (0x80 + d / 64 % 64), UInt8.ofNat (0x80 + d % 64)]⟩).size ≤ 4 := by
    intro d hd
    rw [if_neg (by omega), if_neg (by omega)]
    split
    · exact ⟨Nat.le_refl 3, Nat.le_succ 3⟩
    · exact ⟨Nat.le_succ 3, Nat.le_refl 4⟩
  cases hv : Utf8.valid (c : Int)
  · have := key 65533 (by omega)
    unfold Utf8.encode
    simp only [hv, Bool.false_eq_true, if_false, Utf8.runeError]
    exact this
  · have := key c h2
    unfold Utf8.encode
    simp only [hv, if_true, Int.toNat_natCast]
    exact this

set_option maxHeartbeats 400000 in
set_option maxRecDepth 1000000 in
theorem runeIn_else (c : Nat) (w : World) (hc : 128 ≤ c) (hc2 : c ≤ 2147483647) (hne : ((c : Int) == 65533) = false) :
    Calls Tryz.prog 89 #[.string ⟨#[43, 35]⟩, .int .i32 (c : Nat)] w fun e w' => e = .returned (.int .i64 (-1)) ∧ Below w.heap.size w w' := by
  by_cases h2 : c < 2048
  · have HXY := Lib.hid (encode_two c hc h2)
    clear h2
    go_enter Tryz.func89, Tryz.ntmps89
    go_wp2_with fail
    refine (Tryz.utf8_ValidRune _ _).mono ?_
    rintro e w' ⟨rfl, rfl⟩
    cases hv : Lib.validRune (c : Int)
    · go_wp2_with fail
      go_ret
      exact ⟨rfl, Below.refl _ _⟩
    · go_wp2_with fail
      go_step3
      obtain ⟨x, y, hxy, hy⟩ := HXY.out
      have hsz : (⟨#[x, y]⟩ : ByteArray).size = 2 := rfl
      have hw1 : wrap64 1 = 1 := by unfold wrap64; omega
      have HY := Lib.hid hy
      clear hy
      go_wp2_with fail
      refine wp_loop_rounds 1 ?_
      rw [rounds_succ]
      go_wp2_with fail
      go_step3
      have hyn : ((((⟨#[43, 35]⟩ : ByteArray)[1]'(by decide)).toNat : Int) != (((⟨#[x, y]⟩ : ByteArray)[1]'(Nat.le_refl 2)).toNat : Int)) = true := by
        show ((35 : Int) != (y.toNat : Int)) = true
        have := HY.out; rw [bne_iff_ne]; omega
      go_wp2_with fail
      go_quiet (fail)
      go_wp2_with fail
      have hw2 : wrap64 2 = 2 := by unfold wrap64; omega
      go_quiet ((go_at_call 101; exact quiet_add_same (idxByte_nil _ _ (by rfl) _)))
      go_wp2_with fail
      repeat (first | rw [Exit.noGoto_ret] | simp only [Exit.inBlock] | simp only [Exit.then])
      go_ret
      exact ⟨rfl, below_drewN (Below.refl _ _) _⟩
  · have H3 := Lib.hid (encode_more c (by omega))
    clear h2
    go_enter Tryz.func89, Tryz.ntmps89
    go_wp2_with fail
    refine (Tryz.utf8_ValidRune _ _).mono ?_
    rintro e w' ⟨rfl, rfl⟩
    cases hv : Lib.validRune (c : Int)
    · go_wp2_with fail
      go_ret
      exact ⟨rfl, Below.refl _ _⟩
    · go_wp2_with fail
      go_step3
      have H5 := H3.out
      obtain ⟨n, hn⟩ : ∃ n, (Utf8.encode (c : Int)).size = n := ⟨_, rfl⟩
      have h5 : ¬ ((n : Int) - 1 < 2) := by omega
      have h6 : (n : Int) - 1 ≤ 100 := by omega
      have h7 : 0 ≤ (n : Int) - 1 := by omega
      have h8 : ¬ ((n : Int) < 3) := by omega
      have h9 : (3 : Int) ≤ n := by omega
      have h10 : decide ((n : Int) - 1 < 2) = false := by rw [decide_eq_false_iff_not]; omega
      clear H5
      go_wp2_with fail
      refine wp_loop_rounds 1 ?_
      rw [rounds_succ]
      go_wp2_with fail
      repeat (first | rw [Exit.noGoto_ret] | simp only [Exit.inBlock] | simp only [Exit.then])
      go_ret
      exact ⟨rfl, Below.refl _ _⟩

theorem runeIn_high (c : Nat) (w : World) (hc : 128 ≤ c) (hc2 : c ≤ 2147483647) :
    Calls Tryz.prog 89 #[.string ⟨#[43, 35]⟩, .int .i32 (c : Nat)] w fun e w' => e = .returned (.int .i64 (-1)) ∧ Below w.heap.size w w' := by
  by_cases h : c = 65533
  · subst h; exact runeIn_fffd w
  · exact runeIn_else c w hc hc2 (by rw [beq_eq_false_iff_ne]; omega)

theorem idx_sign_no (c : UInt8) (h1 : c ≠ 43) (h2 : c ≠ 35) : Lib.indexByte [43, 35] c = -1 := by
  simp [Lib.indexByte, Ne.symm h1, Ne.symm h2]

/-- IndexRune("+#", c): -1, but for the two signs. -/
theorem runeIn_no (c : Nat) (w : World) (hc2 : c ≤ 2147483647) (h1 : c ≠ 43) (h2 : c ≠ 35) :
    Calls Tryz.prog 89 #[.string ⟨#[43, 35]⟩, .int .i32 (c : Nat)] w fun e w' => e = .returned (.int .i64 (-1)) ∧ Below w.heap.size w w' := by
  by_cases h : c < 128
  · refine (Tryz.strings_IndexRune_ascii ⟨#[43, 35]⟩ (c : Int) w (by omega) (by omega)).mono fun e w' ⟨he, hw⟩ => ⟨?_, hw ▸ Below.refl _ _⟩
    have e0 : ((c : Int).toNat.toUInt8).toNat = c := by
      rw [Int.toNat_natCast]; show (UInt8.ofNat c).toNat = c; rw [UInt8.toNat_ofNat']; omega
    rw [he, show (⟨#[43, 35]⟩ : ByteArray).data.toList = [43, 35] from rfl, idx_sign_no]
    · intro e; rw [e] at e0; exact h1 e0.symm
    · intro e; rw [e] at e0; exact h2 e0.symm
  · exact runeIn_high c w (by omega) hc2

theorem runeIn_yes (c : Nat) (w : World) (h : c = 43 ∨ c = 35) :
    Calls Tryz.prog 89 #[.string ⟨#[43, 35]⟩, .int .i32 (c : Nat)] w fun e w' => (∃ k : Int, e = .returned (.int .i64 k) ∧ 0 ≤ k) ∧ Below w.heap.size w w' := by
  refine (Tryz.strings_IndexRune_ascii ⟨#[43, 35]⟩ (c : Int) w (by omega) (by omega)).mono fun e w' ⟨he, hw⟩ => ⟨⟨_, he, ?_⟩, hw ▸ Below.refl _ _⟩
  rcases h with rfl | rfl <;> decide +kernel

theorem zeroSet (w : World) : (zeroValue 129).run Tryz.prog w = .ok (.agg (Array.replicate 256 (.bool false))) w := by kernel_rfl

def SignAt (s : ByteArray) (w : World) (e : Ending) (w' : World) : Prop := ∃ k : Int, e = .returned (.int .i64 k) ∧ decide (0 ≤ k) = sign s ∧ Below w.heap.size w w'

set_option maxHeartbeats 400000 in
set_option maxRecDepth 100000 in
theorem indexAny_short (s : ByteArray) (w : World) (h8 : s.size ≤ 8) : Calls Tryz.prog 77 #[.string s, .string ⟨#[43, 35]⟩] w (SignAt s w) := by
  have h80 : decide (8 < (s.size : Int)) = false := by rw [decide_eq_false_iff_not]; omega
  go_enter Tryz.func77, Tryz.ntmps77
  go_wp2_with (go_at_call 90; refine (Tryz.strings_shouldUseASCIISet _ _).mono ?_; rintro e w' ⟨rfl, hw⟩; rw [hw]; clear hw)
  go_loopw [] (fun wr => ∃ pos, pos ≤ s.size ∧ wr.heap[w.heap.size]? = some (.stringIter s pos) ∧ signL (s.data.toList.drop pos) = sign s ∧ Below w.heap.size w wr) (fun wr => s.size - wr.iterPos w.heap.size)
  case atStart => exact ⟨0, Nat.zero_le _, by simp [World.iter_heap], rfl, (Below.refl _ _).alloc (Nat.le_refl _) _⟩
  case round =>
    obtain ⟨pos, hpos, hit, hu, hbel⟩ := hrel
    have HU := Lib.hid hu
    clear hu
    have HIP := Lib.hid (iterPos_of hit)
    by_cases hp : pos < s.size
    · have hnx : ∀ ty, (Instr.next (.pointer (some ⟨w.heap.size, 0, none⟩)) true ty).run Tryz.prog wr = _ := fun ty => Lib.run_next_any_at wr _ s pos ty hit hp
      have hdb := (decode_byte s pos hp 47 (by decide)).2
      have hle := decode_le s pos
      have hbel' := Lib.below_iterAt hbel (Nat.le_refl _) s (pos + (Utf8.decode s pos).2)
      have hit' := Lib.iterAt_heap wr w.heap.size s pos (pos + (Utf8.decode s pos).2) hit
      generalize wr.iterAt w.heap.size s (pos + (Utf8.decode s pos).2) = wi at *
      have HIT := Lib.hid hit'
      clear hit hit'
      by_cases z : (Utf8.decode s pos).1 = 43 ∨ (Utf8.decode s pos).1 = 35
      · have HF := Lib.hid (sign_here s pos hp z)
        have HC := Lib.hid (runeIn_yes _ wi z)
        clear z
        go_wp2_with (go_at_call 89; refine HC.out.mono ?_; rintro e w1 ⟨⟨k, rfl, hk⟩, hb1⟩)
        go_ret
        exact ⟨_, rfl, by rw [← HU.out, HF.out, decide_eq_true_iff]; omega, hbel'.trans (hb1.mono hbel'.size)⟩
      · have HF := Lib.hid (sign_step s pos hp (fun e => z (.inl e)) (fun e => z (.inr e)))
        have HC := Lib.hid (runeIn_no _ wi hle (fun e => z (.inl e)) (fun e => z (.inr e)))
        clear z
        go_wp2_with (go_at_call 89; refine HC.out.mono ?_; rintro e w1 ⟨rfl, hb1⟩)
        have hkeep := hb1.block w.heap.size (Array.getElem?_eq_some_iff.1 HIT.out).1
        go_roundw
        case rel => exact ⟨_, hdb.2, hkeep.trans HIT.out, by rw [← HU.out, HF.out], hbel'.trans (hb1.mono hbel'.size)⟩
        case measure => rw [iterPos_of (hkeep.trans HIT.out), HIP.out]; omega
    · have hnx : ∀ ty, (Instr.next (.pointer (some ⟨w.heap.size, 0, none⟩)) true ty).run Tryz.prog wr = _ := fun ty => Lib.run_next_end_at wr _ s pos ty hit hp
      have hf : sign s = false := by rw [← HU.out, drop_end s pos hp]; rfl
      have HF := Lib.hid hf
      clear hf
      go_wp2
      go_ret
      exact ⟨_, rfl, by rw [HF.out]; rfl, hbel⟩

theorem indexAny_any (s : ByteArray) (w : World) (hs : s.size ≤ 1000000000) : Calls Tryz.prog 77 #[.string s, .string ⟨#[43, 35]⟩] w (SignAt s w) := by
  by_cases h8 : s.size ≤ 8
  · exact indexAny_short s w h8
  · refine (Tryz.strings_IndexAny_long zeroSet s ⟨#[43, 35]⟩ w (Nat.le_refl 2) (by omega) (by omega) (by decide) ?_).mono fun e w' ⟨he, hw⟩ => ⟨_, he, ?_, ?_⟩
    · intro j b hb
      rw [show (⟨#[43, 35]⟩ : ByteArray).data.toList = [43, 35] from rfl] at hb
      match j, hb with
      | 0, hb => cases hb; decide
      | 1, hb => cases hb; decide
      | j + 2, hb => simp at hb
    · rw [show (⟨#[43, 35]⟩ : ByteArray).data.toList = [43, 35] from rfl, indexAny_sign]; rfl
    · rw [hw]; exact ((Below.refl _ _).alloc (Nat.le_refl _) _).alloc (by simp) _

set_option maxHeartbeats 400000 in
theorem containsAny_any (s : ByteArray) (w : World) (hs : s.size ≤ 1000000000) :
    Calls Tryz.prog 51 #[.string s, .string ⟨#[43, 35]⟩] w fun e w' => e = .returned (.bool (sign s)) ∧ Below w.heap.size w w' := by
  go_enter Tryz.func51, Tryz.ntmps51
  go_wp2_with fail
  refine (indexAny_any s w hs).mono ?_
  rintro e w1 ⟨k, rfl, hk, hb⟩
  have HK := Lib.hid hk
  clear hk
  go_wp2
  go_ret
  exact ⟨ret_bool HK.out, hb⟩

end Go.Proofs.YtgnffkahlniehaaGreat

/- Proved here: the contract of topic.Levels: it tells the levels of a text; below the heap's end nothing turns (texts of at most 10^9 bytes). -/
namespace Go.Proofs.YtgnffkahlniehaaGreat
open Go.RowKit Go.Proofs.Tp

theorem Tryz.info9 : (Tryz.prog.info? 9).map (fun i => (i.zero, i.size, i.bytes)) = some (some (.string ByteArray.empty), 1, 16) := by kernel_rfl

set_option maxHeartbeats 400000 in
set_option maxRecDepth 100000 in
theorem levels_any (s : ByteArray) (w : World) (hs : s.size ≤ 1000000000) :
    Calls Tryz.prog 28 #[.string s] w fun e w' => ∃ v, e = .returned v ∧ w'.ownsRow (w.heap.size + 1) 9 1 v (levels s).length ((levels s).map Value.string) ∧ Below w.heap.size w w' := by
  obtain ⟨i0, hi, hz0, hz1, hz2⟩ := info_parts Tryz.info9
  go_enter Tryz.func28, Tryz.ntmps28
  go_wp2
  go_loopw [3, 4] (fun v f wr => ∃ pos, pos ≤ s.size ∧ wr.heap[w.heap.size]? = some (.stringIter s pos) ∧ f = .int .i64 ((lvTo s pos).2 : Nat) ∧
      wr.ownsRow (w.heap.size + 1) 9 1 v (lvTo s pos).1.length ((lvTo s pos).1.map Value.string) ∧ Below w.heap.size w wr) (fun _ _ wr => s.size - wr.iterPos w.heap.size)
  case atStart => exact ⟨0, Nat.zero_le _, by simp [World.iter_heap], rfl, World.ownsRow_nil _ _ _ _, (Below.refl _ _).alloc (Nat.le_refl _) _⟩
  case round =>
    obtain ⟨pos, hpos, hit, rfl, hown, hbel⟩ := hrel
    have hle := lvTo_le s pos
    have HIP := Lib.hid (iterPos_of hit)
    have hsz : w.heap.size < wr.heap.size := (Array.getElem?_eq_some_iff.1 hit).1
    by_cases hp : pos < s.size
    · have hnx : ∀ ty, (Instr.next (.pointer (some ⟨w.heap.size, 0, none⟩)) true ty).run Tryz.prog wr = _ := fun ty => Lib.run_next_any_at wr _ s pos ty hit hp
      have hds := decode_byte s pos hp 47 (by decide)
      rw [show (47 : UInt8).toNat = 47 from rfl] at hds
      have hown' := ownsRow_iterAt hown (Nat.lt_succ_self w.heap.size) s (pos + (Utf8.decode s pos).2)
      have hbel' := Lib.below_iterAt hbel (Nat.le_refl _) s (pos + (Utf8.decode s pos).2)
      have hit' := Lib.iterAt_heap wr w.heap.size s pos (pos + (Utf8.decode s pos).2) hit
      have hsz' := Lib.iterAt_size wr w.heap.size s (pos + (Utf8.decode s pos).2)
      generalize wr.iterAt w.heap.size s (pos + (Utf8.decode s pos).2) = wi at *
      have HIT := Lib.hid hit'
      have HSZ := Lib.hid hsz'
      rw [← hsz'] at hsz
      clear hit hown hbel hit' hsz'
      obtain ⟨⟨hc, hw1, h47⟩ | ⟨hc, hno⟩, hw, hend⟩ := hds
      · have hc' : (((Utf8.decode s pos).1 : Int) == 47) = true := by rw [hc]; rfl
        have hto : lvTo s (pos + 1) = ((lvTo s pos).1 ++ [s.extract (lvTo s pos).2 pos], pos + 1) := by rw [lvTo_succ]; unfold lvStep; rw [if_pos h47]
        have HTO := Lib.hid hto
        have HW1 := Lib.hid hw1
        clear hto hw1 h47 hc
        go_wp2_with (at_builtin; refine wpList_append_own _ rfl _ _ 31 rfl (w.heap.size + 1) 9 i0 (.string ByteArray.empty) 1 16 Tryz.underlying31 hi hz0 hz1 hz2 rfl (by decide) _ _ _ rfl (hown'.alloc _) ⟨wi.heap.size, 0, none⟩ 1 1 [.string (s.extract (lvTo s pos).2 pos)] rfl rfl ?c1 ?c2 ?c3 ?c4 ?c5 ?_)
        case c1 => exact cell_one_new _ _ _
        case c2 => simp [Value.oneCell']
        case c3 => unfold maxLen; omega
        case c4 => omega
        case c5 => simp; omega
        intro v' w1 hown1 hgrow _
        go_wp2
        go_roundw
        case rel =>
          have h1 := hown'.alloc (.cells #[.string (s.extract (lvTo s pos).2 pos)] 9)
          refine ⟨pos + 1, by omega, ?_, ?_, ?_, ?_⟩
          · rw [hgrow.block _ (by simp; omega) (fun e => by have := (h1.lt _ e.symm).1; omega), Below.heap_alloc _ _ _ hsz, HIT.out, HW1.out]
          · rw [HTO.out]; simp
          · rw [HTO.out]; simpa using hown1
          · exact (hbel'.alloc (by omega) _).grown hgrow (by simp; omega) (fun k e => by have := (h1.lt _ e).1; omega)
        case measure =>
          have h1 := hown'.alloc (.cells #[.string (s.extract (lvTo s pos).2 pos)] 9)
          rw [iterPos_of (p := pos + 1) (s := s) (by rw [hgrow.block _ (by simp; omega) (fun e => by have := (h1.lt _ e.symm).1; omega), Below.heap_alloc _ _ _ hsz, HIT.out, HW1.out]), HIP.out]
          omega
      · have hc' : (((Utf8.decode s pos).1 : Int) == 47) = false := by rw [beq_eq_false_iff_ne]; omega
        have hto := lvTo_jump s pos _ hno
        have HTO := Lib.hid hto
        clear hto hno hc
        go_wp2
        go_roundw
        case rel => exact ⟨pos + (Utf8.decode s pos).2, hend, HIT.out, by rw [HTO.out], by rw [HTO.out]; exact hown', hbel'⟩
        case measure =>
          rw [iterPos_of HIT.out, HIP.out]
          omega
    · have hnx : ∀ ty, (Instr.next (.pointer (some ⟨w.heap.size, 0, none⟩)) true ty).run Tryz.prog wr = _ := fun ty => Lib.run_next_end_at wr _ s pos ty hit hp
      obtain rfl : pos = s.size := by omega
      go_wp2_with (at_builtin; refine wpList_append_own _ rfl _ _ 31 rfl (w.heap.size + 1) 9 i0 (.string ByteArray.empty) 1 16 Tryz.underlying31 hi hz0 hz1 hz2 rfl (by decide) _ _ _ rfl (hown.alloc _) ⟨wr.heap.size, 0, none⟩ 1 1 [.string (s.extract (lvTo s s.size).2 s.size)] rfl rfl ?d1 ?d2 ?d3 ?d4 ?d5 ?_)
      case d1 => exact cell_one_new _ _ _
      case d2 => simp [Value.oneCell']
      case d3 => unfold maxLen; omega
      case d4 => omega
      case d5 => simp; omega
      intro v' w1 hown1 hgrow _
      have h1 := hown.alloc (.cells #[.string (s.extract (lvTo s s.size).2 s.size)] 9)
      go_wp2
      go_ret
      refine ⟨_, rfl, ?_, (hbel.alloc (by omega) _).grown hgrow (by simp; omega) (fun k e => by have := (h1.lt _ e).1; omega)⟩
      simpa [levels] using hown1
end Go.Proofs.YtgnffkahlniehaaGreat

/- Proved here: the contracts of topic.text and topic.Check. -/
namespace Go.Proofs.YtgnffkahlniehaaGreat
open Go.RowKit Go.Proofs.Tp

theorem ret_int {k : IntKind} {a b : Int} (h : a = b) : Ending.returned (.int k a) = .returned (.int k b) := by rw [h]

theorem isEmpty_of (s : ByteArray) (h : s.size = 0) : s.toList.isEmpty = true := by
  rw [Lib.toList_data, List.isEmpty_iff, ← List.length_eq_zero_iff]; simpa using h
theorem isEmpty_no (s : ByteArray) (h : s.size ≠ 0) : s.toList.isEmpty = false := by
  rw [Lib.toList_data, ← Bool.not_eq_true, List.isEmpty_iff, ← List.length_eq_zero_iff]; simpa using h

set_option maxHeartbeats 400000 in
theorem text_any (s : ByteArray) (w : World) (hs : s.size ≤ 1000000000) :
    Calls Tryz.prog 50 #[.string s] w fun e w' => e = .returned (.int .i64 (textE s)) ∧ Below w.heap.size w w' := by
  by_cases h0 : s.size = 0
  · have hd := isEmpty_of s h0
    have HE := Lib.hid h0
    clear h0
    go_enter Tryz.func50, Tryz.ntmps50
    go_wp2
    go_ret
    exact ⟨ret_int (by simp [textE, HE.out]), Below.refl _ _⟩
  · have hd := isEmpty_no s h0
    have HE := Lib.hid h0
    clear h0
    go_enter Tryz.func50, Tryz.ntmps50
    go_wp2_with fail
    refine (wireCheck_any s _ hs).mono ?_
    rintro e w1 ⟨n, c, rfl, hc, hb⟩
    cases ht : isText s
    · rw [ht] at hc
      have HT := Lib.hid ht
      clear ht
      go_wp2
      go_ret
      exact ⟨ret_int (by simp [textE, HE.out, HT.out]), hb⟩
    · rw [ht] at hc
      have HT := Lib.hid ht
      clear ht
      go_wp2
      go_ret
      exact ⟨ret_int (by simp [textE, HE.out, HT.out]), hb⟩

set_option maxHeartbeats 400000 in
theorem check_any (s : ByteArray) (w : World) (hs : s.size ≤ 1000000000) :
    Calls Tryz.prog 24 #[.string s] w fun e w' => e = .returned (.int .i64 (chk s)) ∧ Below w.heap.size w w' := by
  have h0 := textE_nonneg s
  have h1 := textE_lt s
  by_cases ht : textE s = 0
  · have HT := Lib.hid ht
    have hc : (textE s != 0) = false := by rw [ht]; rfl
    clear ht h0 h1
    go_enter Tryz.func24, Tryz.ntmps24
    go_wp2_with fail
    refine (text_any s _ hs).mono ?_
    rintro e w1 ⟨rfl, hb⟩
    go_wp2_with fail
    refine (containsAny_any s _ hs).mono ?_
    rintro e w2 ⟨rfl, hb2⟩
    cases hg : sign s
    · have HG := Lib.hid hg
      clear hg
      go_wp2
      go_ret
      exact ⟨ret_int (by simp [chk, HT.out, HG.out]), hb.trans (hb2.mono hb.size)⟩
    · have HG := Lib.hid hg
      clear hg
      go_wp2
      go_ret
      exact ⟨ret_int (by simp [chk, HT.out, HG.out]), hb.trans (hb2.mono hb.size)⟩
  · have HT := Lib.hid ht
    have hc : (textE s != 0) = true := by rw [bne_iff_ne]; exact ht
    clear ht h0 h1
    go_enter Tryz.func24, Tryz.ntmps24
    go_wp2_with fail
    refine (text_any s _ hs).mono ?_
    rintro e w1 ⟨rfl, hb⟩
    go_wp2
    go_ret
    exact ⟨ret_int (by simp [chk, HT.out]), hb⟩

end Go.Proofs.YtgnffkahlniehaaGreat

/- Proved here: the contract of topic.CheckFilter. -/
namespace Go.Proofs.YtgnffkahlniehaaGreat
open Go.RowKit Go.Proofs.Tp

theorem badLv_cons (x : ByteArray) (r : List ByteArray) : badLv (x :: r) = ((sign x && decide (1 < x.size)) || (decide (x.data.toList = [35]) && !r.isEmpty) || badLv r) := rfl

/-- A level with a sign at 'pos', told by the decoding. -/
theorem level_sign (x : ByteArray) (pos : Nat) (h : pos < x.size) (h1 : (Utf8.decode x pos).1 = 43 ∨ (Utf8.decode x pos).1 = 35) (hle : x.size ≤ 1) :
    x.data.toList = [35] ↔ (Utf8.decode x pos).1 = 35 := by
  obtain rfl : pos = 0 := by omega
  have hl : x.data.toList.length = 1 := by simp; omega
  obtain ⟨c, hc⟩ : ∃ c, x.data.toList = [c] := by
    match hx : x.data.toList, hl with
    | [c], _ => exact ⟨c, rfl⟩
  have hd := (decode_byte x 0 h 35 (by decide)).1
  rw [hc]
  constructor
  · intro e
    rw [e] at hc
    rw [hc] at hd
    exact (hd.resolve_right (fun y => y.2 0 (by have := (decode_byte x 0 h 35 (by decide)).2.1; omega) rfl)).1
  · intro e
    have := (hd.resolve_right (fun y => y.1 e)).2.2
    rw [hc] at this
    simpa using this

theorem badLv_keep (x : ByteArray) (r : List ByteArray) (h1 : sign x = true → x.size ≤ 1) (h2 : x.data.toList = [35] → r = []) : badLv (x :: r) = badLv r := by
  rw [badLv_cons]
  have a : (sign x && decide (1 < x.size)) = false := by
    cases hs : sign x
    · rfl
    · rw [decide_eq_false (by have := h1 hs; omega)]; rfl
  have b : (decide (x.data.toList = [35]) && !r.isEmpty) = false := by
    by_cases e : x.data.toList = [35]
    · rw [h2 e]; simp
    · rw [decide_eq_false e]; rfl
  rw [a, b]; rfl

theorem badLv_stop (x : ByteArray) (r : List ByteArray) (h : (sign x = true ∧ 1 < x.size) ∨ (x.data.toList = [35] ∧ r ≠ [])) : badLv (x :: r) = true := by
  rw [badLv_cons]
  rcases h with ⟨h1, h2⟩ | ⟨h1, h2⟩
  · rw [h1, decide_eq_true h2]; rfl
  · rw [decide_eq_true h1]
    have : r.isEmpty = false := by cases r with | nil => exact absurd rfl h2 | cons _ _ => rfl
    rw [this]; simp

set_option maxHeartbeats 1000000 in
set_option maxRecDepth 1000000 in
theorem checkFilter_walk (s : ByteArray) (w : World) (hs : s.size ≤ 1000000000) (ht : textE s = 0) :
    Calls Tryz.prog 36 #[.string s] w fun e w' => e = .returned (.int .i64 (chkF s)) ∧ Below w.heap.size w w' := by
  have hc : (textE s != 0) = false := by rw [ht]; rfl
  have HT := Lib.hid ht
  clear ht
  go_enter Tryz.func36, Tryz.ntmps36
  go_wp2_with fail
  go_step3
  go_wp2_with fail
  refine (text_any s _ hs).mono ?_
  rintro e w1 ⟨rfl, hb⟩
  go_wp2_with fail
  refine (levels_any s _ hs).mono ?_
  rintro e w2 ⟨v, rfl, hown, hb2⟩
  have hlen : (levels s).length ≤ 1000000001 := by
    have := (lvTo_le s s.size).2
    simp only [levels, List.length_append, List.length_cons, List.length_nil]; omega
  have hpos : 0 < (levels s).length := by simp [levels]
  have hfin : chkF s = if badLv (levels s) then 52 else 0 := by simp [chkF, HT.out]
  have HF := Lib.hid hfin
  clear hfin
  have hst := StrsAt.of_owns hown
  clear hown
  obtain ⟨b, off, cap, rfl, hlc, hcm, hbw, hcell⟩ := hst.open hpos
  clear hst
  generalize levels s = L at *
  obtain ⟨n, hn⟩ : ∃ n, L.length = n := ⟨_, rfl⟩
  have HN := Lib.hid hn
  rw [hn] at hlen hpos hlc ⊢
  have HC := Lib.hid hcell
  have HB := Lib.hid (hb.trans (hb2.mono hb.size))
  clear hcell hn hb hb2
  go_wp2_with fail
  go_step3
  go_wp2_with fail
  go_loopg [18] n (fun g i wr => ∃ k, k + g = n ∧ i = .int .i64 (k : Nat) ∧ Aside (badLv (L.drop k) = badLv L) ∧ Below w2.heap.size w2 wr)
  case atStart => exact ⟨0, by omega, rfl, rfl, Below.refl _ _⟩
  case round =>
    obtain ⟨k, hkg, rfl, HI, hbx⟩ := hrel
    have HKG := Lib.hid hkg
    cases gk with
    | zero =>
      have hkz : ¬ ((k : Int) < (n : Int)) := by omega
      clear hkg
      go_wp2_with fail
      go_ret
      exact ⟨ret_int (by rw [HF.out, ← HI.out, List.drop_eq_nil_of_le (by rw [HN.out]; have := HKG.out; omega)]; rfl), HB.out.trans (hbx.mono HB.out.size)⟩
    | succ g =>
      have hkz : (k : Int) < (n : Int) := by omega
      have hkn : k < n := by omega
      clear hkg
      obtain ⟨x, hx⟩ : ∃ x, L[k]? = some x := ⟨L[k]'(by rw [HN.out]; exact hkn), List.getElem?_eq_getElem _⟩
      have hcx : wr.cell? ⟨b, off + k, none⟩ = some (.string x) := (hbx.cell (p := ⟨b, off + k, none⟩) hbw).trans (HC.out k x hx)
      have hdrop : L.drop k = x :: L.drop (k + 1) := by
        obtain ⟨hlt, he⟩ := List.getElem?_eq_some_iff.1 hx
        rw [List.drop_eq_getElem_cons hlt, he]
      have HX := Lib.hid hx
      have HD := Lib.hid hdrop
      clear hx hdrop
      obtain ⟨wo, rfl⟩ : ∃ wo : World, wo = wr := ⟨_, rfl⟩
      go_wp2_with fail
      go_loopg [] x.size (fun g2 wi => ∃ pos, pos + g2 = x.size ∧ wi.heap[wo.heap.size]? = some (.stringIter x pos) ∧ Aside (signL (x.data.toList.drop pos) = sign x) ∧ Below wo.heap.size wo wi)
      case atStart => exact ⟨0, by omega, by simp [World.iter_heap], rfl, (Below.refl _ _).alloc (Nat.le_refl _) _⟩
      case round =>
        obtain ⟨pos, hpg, hit, HS, hby⟩ := hrel
        have HPG := Lib.hid hpg
        by_cases hp : pos < x.size
        · have hnx : ∀ ty, (Instr.next (.pointer (some ⟨wo.heap.size, 0, none⟩)) true ty).run Tryz.prog wr = _ := fun ty => Lib.run_next_any_at wr _ x pos ty hit hp
          have hdb := (decode_byte x pos hp 47 (by decide)).2
          have hls := level_sign x pos hp
          have hsh := sign_here x pos hp
          have hss := sign_step x pos hp
          have hby' := Lib.below_iterAt hby (Nat.le_refl _) x (pos + (Utf8.decode x pos).2)
          have hit' := Lib.iterAt_heap wr wo.heap.size x pos (pos + (Utf8.decode x pos).2) hit
          generalize wr.iterAt wo.heap.size x (pos + (Utf8.decode x pos).2) = wi at *
          have HIT := Lib.hid hit'
          have HDB := Lib.hid hdb
          clear hit hit' hpg hdb hby
          have hbz : Below w2.heap.size w2 wi := hbx.trans (hby'.mono hbx.size)
          by_cases z : (Utf8.decode x pos).1 = 43 ∨ (Utf8.decode x pos).1 = 35
          · have hsx : sign x = true := HS.out.symm.trans (hsh z)
            by_cases hl : 1 < x.size
            · have hlI : (1 : Int) < (x.size : Int) := by omega
              have hfin : badLv L = true := by rw [← HI.out, HD.out]; exact badLv_stop _ _ (.inl ⟨hsx, hl⟩)
              have HFIN := Lib.hid hfin
              clear hfin hls hsh hss hsx hl
              rcases z with z | z
              · have z1 : (((Utf8.decode x pos).1 : Int) != 43) = false := by rw [z]; rfl
                clear z
                go_wp2
                repeat (first | rw [Exit.noGoto_ret] | simp only [Exit.inBlock] | simp only [Exit.then])
                go_ret
                exact ⟨ret_int (by rw [HF.out, HFIN.out]; rfl), HB.out.trans (hbz.mono HB.out.size)⟩
              · have z1 : (((Utf8.decode x pos).1 : Int) != 43) = true := by rw [z]; rfl
                have z2 : (((Utf8.decode x pos).1 : Int) != 35) = false := by rw [z]; rfl
                clear z
                go_wp2
                repeat (first | rw [Exit.noGoto_ret] | simp only [Exit.inBlock] | simp only [Exit.then])
                go_ret
                exact ⟨ret_int (by rw [HF.out, HFIN.out]; rfl), HB.out.trans (hbz.mono HB.out.size)⟩
            · have hlI : ¬ ((1 : Int) < (x.size : Int)) := by omega
              have hls' := hls z (by omega)
              rcases z with z | z
              · have z1 : (((Utf8.decode x pos).1 : Int) != 43) = false := by rw [z]; rfl
                have z3 : (((Utf8.decode x pos).1 : Int) == 35) = false := by rw [z]; rfl
                have hk : badLv (x :: L.drop (k + 1)) = badLv (L.drop (k + 1)) := badLv_keep _ _ (fun _ => by omega) (fun e => by have := hls'.1 e; omega)
                have HK := Lib.hid hk
                clear z hls hsh hss hls' hk hl
                go_wp2
                go_roundg g
                case measure => omega
                case rel => exact ⟨k + 1, by have := HKG.out; omega, by go_num, by show _ = _; rw [← HI.out, HD.out, HK.out], hbz⟩
              · have z1 : (((Utf8.decode x pos).1 : Int) != 43) = true := by rw [z]; rfl
                have z2 : (((Utf8.decode x pos).1 : Int) != 35) = false := by rw [z]; rfl
                have z3 : (((Utf8.decode x pos).1 : Int) == 35) = true := by rw [z]; rfl
                have hx35 := hls'.2 z
                by_cases hkl : k + 1 < n
                · have hklI : (k : Int) < (n : Int) - 1 := by omega
                  have hklI2 : (k : Int) + 1 < (n : Int) := by omega
                  have hr : L.drop (k + 1) ≠ [] := by
                    rw [Ne, List.drop_eq_nil_iff, HN.out]; omega
                  have hfin : badLv L = true := by rw [← HI.out, HD.out]; exact badLv_stop _ _ (.inr ⟨hx35, hr⟩)
                  have HFIN := Lib.hid hfin
                  clear hfin hls hsh hss hsx hl hr hx35 hls' z hkl
                  go_wp2
                  repeat (first | rw [Exit.noGoto_ret] | simp only [Exit.inBlock] | simp only [Exit.then])
                  go_ret
                  exact ⟨ret_int (by rw [HF.out, HFIN.out]; rfl), HB.out.trans (hbz.mono HB.out.size)⟩
                · have hklI : ¬ ((k : Int) < (n : Int) - 1) := by omega
                  have hklI2 : ¬ ((k : Int) + 1 < (n : Int)) := by omega
                  have hk : badLv (x :: L.drop (k + 1)) = badLv (L.drop (k + 1)) := badLv_keep _ _ (fun _ => by omega) (fun e => by rw [List.drop_eq_nil_iff, HN.out]; omega)
                  have HK := Lib.hid hk
                  clear z hls hsh hss hls' hk hl hx35 hkl
                  go_wp2
                  go_roundg g
                  case measure => omega
                  case rel => exact ⟨k + 1, by have := HKG.out; omega, by go_num, by show _ = _; rw [← HI.out, HD.out, HK.out], hbz⟩
          · have z1 : (((Utf8.decode x pos).1 : Int) != 43) = true := by rw [bne_iff_ne]; intro e; exact z (.inl (by omega))
            have z2 : (((Utf8.decode x pos).1 : Int) != 35) = true := by rw [bne_iff_ne]; intro e; exact z (.inr (by omega))
            have hs2 := hss (fun e => z (.inl e)) (fun e => z (.inr e))
            have HS2 := Lib.hid hs2
            clear hls hsh hss hs2 z
            go_wp2
            go_roundg (x.size - (pos + (Utf8.decode x pos).2))
            case measure => have := HDB.out; have := HPG.out; omega
            case rel => exact ⟨pos + (Utf8.decode x pos).2, by have := HDB.out; omega, HIT.out, by show _ = _; rw [← HS.out, HS2.out], hby'⟩
        · have hnx : ∀ ty, (Instr.next (.pointer (some ⟨wo.heap.size, 0, none⟩)) true ty).run Tryz.prog wr = _ := fun ty => Lib.run_next_end_at wr _ x pos ty hit hp
          have hsf : sign x = false := by rw [← HS.out, drop_end x pos hp]; rfl
          have hk : badLv (x :: L.drop (k + 1)) = badLv (L.drop (k + 1)) := badLv_keep _ _ (fun e => by rw [hsf] at e; cases e) (fun e => by unfold sign at hsf; rw [e] at hsf; cases hsf)
          have HK := Lib.hid hk
          have hbz : Below w2.heap.size w2 wr := hbx.trans (hby.mono hbx.size)
          clear hk hsf hpg
          go_wp2
          go_roundg g
          case measure => omega
          case rel => exact ⟨k + 1, by have := HKG.out; omega, by go_num, by show _ = _; rw [← HI.out, HD.out, HK.out], hbz⟩

set_option maxHeartbeats 400000 in
theorem checkFilter_any (s : ByteArray) (w : World) (hs : s.size ≤ 1000000000) :
    Calls Tryz.prog 36 #[.string s] w fun e w' => e = .returned (.int .i64 (chkF s)) ∧ Below w.heap.size w w' := by
  by_cases ht : textE s = 0
  · exact checkFilter_walk s w hs ht
  · have hc : (textE s != 0) = true := by rw [bne_iff_ne]; exact ht
    have hfin : chkF s = textE s := by simp [chkF, ht]
    have HF := Lib.hid hfin
    have hn := textE_nonneg s
    clear ht hfin
    go_enter Tryz.func36, Tryz.ntmps36
    go_wp2_with fail
    go_step3
    go_wp2_with fail
    refine (text_any s _ hs).mono ?_
    rintro e w1 ⟨rfl, hb⟩
    go_wp2_with fail
    repeat (first | rw [Exit.noGoto_ret] | simp only [Exit.inBlock] | simp only [Exit.then])
    go_ret
    exact ⟨ret_int HF.out.symm, hb⟩

end Go.Proofs.YtgnffkahlniehaaGreat

/- Of the comparing of texts: cmp.Compare walked, and what levels measure. -/
namespace Go.Proofs.YtgnffkahlniehaaGreat
open Go.RowKit Go.Proofs.Tp

theorem ba_ext {x y : ByteArray} (h : x.data.toList = y.data.toList) : x = y := by
  obtain ⟨⟨a⟩⟩ := x; obtain ⟨⟨b⟩⟩ := y; simp only at h; rw [h]

set_option maxHeartbeats 400000 in
theorem cmpStr_any (x y : ByteArray) (w : World) :
    Calls Tryz.prog 79 #[.string x, .string y] w fun e w' => e = .returned (.int .i64 (cmpB x y)) ∧ w = w' := by
  by_cases h1 : x.data.toList < y.data.toList
  · have b1 : Op.bytesLess x.toList y.toList = true := by rw [bytesLess_eq, Lib.toList_data, Lib.toList_data]; simpa using h1
    have hf : cmpB x y = -1 := by unfold cmpB; rw [if_pos h1]
    have HF := Lib.hid hf
    clear hf h1
    go_enter Tryz.func79, Tryz.ntmps79
    go_wp2
    go_ret
    exact ⟨ret_int HF.out.symm, rfl⟩
  · have b1 : Op.bytesLess x.toList y.toList = false := by rw [bytesLess_eq, Lib.toList_data, Lib.toList_data]; simpa using h1
    by_cases h2 : y.data.toList < x.data.toList
    · have b2 : (x.toList == y.toList) = false := by
        rw [Lib.toList_data, Lib.toList_data, beq_eq_false_iff_ne]; intro e; rw [e] at h2; exact absurd h2 (List.lt_irrefl _)
      have hf : cmpB x y = 1 := by unfold cmpB; rw [if_neg h1, if_pos h2]
      have HF := Lib.hid hf
      clear hf h1 h2
      go_enter Tryz.func79, Tryz.ntmps79
      go_wp2
      go_ret
      exact ⟨ret_int HF.out.symm, rfl⟩
    · have b2 : (x.toList == y.toList) = true := by
        rw [Lib.toList_data, Lib.toList_data, beq_iff_eq]; exact List.le_antisymm (List.not_lt.1 h2) (List.not_lt.1 h1)
      have hf : cmpB x y = 0 := by unfold cmpB; rw [if_neg h1, if_neg h2]
      have HF := Lib.hid hf
      clear hf h1 h2
      go_enter Tryz.func79, Tryz.ntmps79
      go_wp2
      go_ret
      exact ⟨ret_int HF.out.symm, rfl⟩

theorem cmpB_cases (x y : ByteArray) : cmpB x y = -1 ∨ cmpB x y = 0 ∨ cmpB x y = 1 := by unfold cmpB; split; (exact .inl rfl); split; (exact .inr (.inr rfl)); exact .inr (.inl rfl)

theorem drop_at {α : Type} {L : List α} {k : Nat} {x : α} (h : L[k]? = some x) : L.drop k = x :: L.drop (k + 1) := by
  obtain ⟨hlt, he⟩ := List.getElem?_eq_some_iff.1 h
  rw [List.drop_eq_getElem_cons hlt, he]

theorem levels_len (s : ByteArray) (hs : s.size ≤ 1000000000) : 0 < (levels s).length ∧ (levels s).length ≤ 1000000001 := by
  have := (lvTo_le s s.size).2
  simp only [levels, List.length_append, List.length_cons, List.length_nil]; omega

end Go.Proofs.YtgnffkahlniehaaGreat

/- Plain: the order of levels; levels and joined texts. No program in sight. -/
namespace Go.Proofs.Tp
open Go Go.RowKit Go.Proofs.YtgnffkahlniehaaGreat

theorem cmpB_rev (x y : ByteArray) : cmpB y x = - cmpB x y := by
  unfold cmpB
  by_cases h1 : x.data.toList < y.data.toList
  · rw [if_pos h1, if_neg (List.lt_asymm h1), if_pos h1]; rfl
  · by_cases h2 : y.data.toList < x.data.toList
    · rw [if_pos h2, if_neg h1, if_pos h2]
    · rw [if_neg h1, if_neg h2, if_neg h2, if_neg h1]; rfl

theorem cmpB_zero (x y : ByteArray) : cmpB x y = 0 ↔ x = y := by
  unfold cmpB
  constructor
  · intro h
    by_cases h1 : x.data.toList < y.data.toList
    · rw [if_pos h1] at h; cases h
    · by_cases h2 : y.data.toList < x.data.toList
      · rw [if_neg h1, if_pos h2] at h; cases h
      · exact ba_ext (List.le_antisymm (List.not_lt.1 h2) (List.not_lt.1 h1))
  · rintro rfl
    rw [if_neg (List.lt_irrefl _), if_neg (List.lt_irrefl _)]

theorem cmpB_trans {x y z : ByteArray} (h1 : cmpB x y = -1) (h2 : cmpB y z = -1) : cmpB x z = -1 := by
  have k : ∀ {a b : ByteArray}, cmpB a b = -1 ↔ a.data.toList < b.data.toList := by
    intro a b
    unfold cmpB
    constructor
    · intro h
      by_cases h1 : a.data.toList < b.data.toList
      · exact h1
      · rw [if_neg h1] at h; split at h <;> cases h
    · intro h; rw [if_pos h]
  exact k.2 (List.lt_trans (k.1 h1) (k.1 h2))

theorem cmpL_cons (x y : ByteArray) (a b : List ByteArray) : cmpL (x :: a) (y :: b) = if cmpB x y = 0 then cmpL a b else cmpB x y := by rw [cmpL]

theorem cmpL_cases : ∀ (a b : List ByteArray), cmpL a b = -1 ∨ cmpL a b = 0 ∨ cmpL a b = 1
  | [], [] => .inr (.inl rfl)
  | [], _ :: _ => .inl rfl
  | _ :: _, [] => .inr (.inr rfl)
  | x :: a, y :: b => by
    rw [cmpL_cons]; split
    · exact cmpL_cases a b
    · exact cmpB_cases x y

theorem cmpL_rev : ∀ (a b : List ByteArray), cmpL b a = - cmpL a b
  | [], [] => rfl
  | [], _ :: _ => rfl
  | _ :: _, [] => rfl
  | x :: a, y :: b => by
    rw [cmpL_cons, cmpL_cons, cmpB_rev x y]
    by_cases h : cmpB x y = 0
    · rw [if_pos h, if_pos (by omega), cmpL_rev a b]
    · rw [if_neg h, if_neg (by omega)]

theorem cmpL_zero : ∀ (a b : List ByteArray), cmpL a b = 0 ↔ a = b
  | [], [] => ⟨fun _ => rfl, fun _ => rfl⟩
  | [], _ :: _ => ⟨fun h => (by cases h), fun h => (by cases h)⟩
  | _ :: _, [] => ⟨fun h => (by cases h), fun h => (by cases h)⟩
  | x :: a, y :: b => by
    rw [cmpL_cons]
    by_cases h : cmpB x y = 0
    · rw [if_pos h, cmpL_zero a b, (cmpB_zero x y).1 h]; simp
    · rw [if_neg h]
      constructor
      · intro e; exact absurd e h
      · intro e; injection e with e1 _; exact absurd ((cmpB_zero x y).2 e1) h

theorem cmpL_trans : ∀ (a b c : List ByteArray), cmpL a b ≤ 0 → cmpL b c ≤ 0 → cmpL a c ≤ 0
  | [], _, [], _, _ => Int.le_refl _
  | [], _, _ :: _, _, _ => by show (-1 : Int) ≤ 0; omega
  | x :: a, [], _, h, _ => by have : cmpL (x :: a) [] = 1 := rfl; omega
  | x :: a, y :: b, [], _, h => by have : cmpL (y :: b) [] = 1 := rfl; omega
  | x :: a, y :: b, z :: c, h1, h2 => by
    rw [cmpL_cons] at h1 h2 ⊢
    have cxy := cmpB_cases x y
    have cyz := cmpB_cases y z
    by_cases e1 : cmpB x y = 0
    · rw [if_pos e1] at h1
      have := (cmpB_zero x y).1 e1; subst this
      by_cases e2 : cmpB x z = 0
      · rw [if_pos e2] at h2 ⊢; exact cmpL_trans a b c h1 h2
      · rw [if_neg e2] at h2 ⊢; exact h2
    · rw [if_neg e1] at h1
      by_cases e2 : cmpB y z = 0
      · have := (cmpB_zero y z).1 e2; subst this
        rw [if_neg e1]; exact h1
      · rw [if_neg e2] at h2
        have := cmpB_trans (x := x) (y := y) (z := z) (by omega) (by omega)
        rw [this, if_neg (by decide)]; decide

theorem cmpL_more : ∀ (a m : List ByteArray), m ≠ [] → cmpL a (a ++ m) = -1
  | [], m, h => by cases m with | nil => exact absurd rfl h | cons _ _ => rfl
  | x :: a, m, h => by
    rw [List.cons_append, cmpL_cons, if_pos ((cmpB_zero x x).2 rfl)]
    exact cmpL_more a m h

theorem levels_map (s : ByteArray) : levels s = (split s.data.toList).map mkB := by
  rw [← levels_split, List.map_map]
  have : ∀ x : ByteArray, (mkB ∘ (·.data.toList)) x = x := fun x => rfl
  rw [List.map_congr_left (g := id) (fun x _ => this x), List.map_id]

theorem levels_inj {a b : ByteArray} (h : levels a = levels b) : a = b := by
  have := joinT_levels a
  rw [h, joinT_levels] at this
  exact this.symm

theorem app_data (a b : ByteArray) : (a ++ b).data.toList = a.data.toList ++ b.data.toList := by
  rw [ByteArray.data_append, Array.toList_append]

/-- Two texts with a slash between them. -/
theorem levels_cut (a b : ByteArray) : levels (a ++ ⟨#[47]⟩ ++ b) = levels a ++ levels b := by
  rw [levels_map, levels_map, levels_map, app_data, app_data, List.append_assoc]
  show (split (a.data.toList ++ 47 :: b.data.toList)).map mkB = _
  rw [split_cut, List.map_append]

theorem level_noslash {s x : ByteArray} (h : x ∈ levels s) : 47 ∉ x.data.toList :=
  split_noslash _ _ (by rw [← levels_split]; exact List.mem_map_of_mem h)

theorem levels_plain {x : ByteArray} (h : 47 ∉ x.data.toList) : levels x = [x] := by
  rw [levels_map, split_plain _ h]; rfl

theorem levels_joinT (L : List ByteArray) (h : L ≠ []) (hx : ∀ x, x ∈ L → 47 ∉ x.data.toList) : levels (joinT L) = L := by
  rw [levels_map, joinT_data, split_join]
  · rw [List.map_map]
    have : ∀ x : ByteArray, (mkB ∘ (·.data.toList)) x = x := fun x => rfl
    rw [List.map_congr_left (g := id) (fun x _ => this x), List.map_id]
  · intro e; exact h (List.map_eq_nil_iff.1 e)
  · intro y hy
    obtain ⟨x, h1, rfl⟩ := List.mem_map.1 hy
    exact hx x h1

theorem levels_one {x : ByteArray} (h : (levels x).length = 1) : levels x = [x] := by
  have hj := joinT_levels x
  match hL : levels x, h with
  | [y], _ =>
    rw [hL] at hj
    have : joinT [y] = y := by unfold joinT; rw [List.map_cons, List.map_nil, Lib.join_one]
    rw [← hj, this]

/-! ### Shared filters -/

def shareT : ByteArray := ⟨#[36, 115, 104, 97, 114, 101, 47]⟩
def slashT : ByteArray := ⟨#[47]⟩

theorem ba_assoc (a b c : ByteArray) : a ++ b ++ c = a ++ (b ++ c) := ba_ext (by simp only [app_data, List.append_assoc])

theorem joinT_cons (x y : ByteArray) (r : List ByteArray) : joinT (x :: y :: r) = x ++ slashT ++ joinT (y :: r) := by
  apply ba_ext
  rw [app_data, app_data, joinT_data, joinT_data, List.map_cons, List.map_cons, Lib.join_cons, Lib.join_cons]
  simp [Lib.joinTail, slashT]

end Go.Proofs.Tp

/- Plain: small facts for the walks of goes and of shared. -/
namespace Go.Proofs.YtgnffkahlniehaaGreat
open Go.RowKit Go.Proofs.Tp

theorem strEq (x : ByteArray) (l : List UInt8) : (x.toList == l) = decide (x.data.toList = l) := by
  rw [Lib.toList_data]
  by_cases h : x.data.toList = l
  · rw [h]; simp
  · rw [decide_eq_false h, beq_eq_false_iff_ne]; exact h

theorem quiet_add {P : Program} {f : FuncId} {args : Array Value} {w : World} {a n : Nat} {v : Value}
    (h : Calls P f args (w.drewN (a + n)) fun e w' => e = .returned v ∧ ∃ m, w' = (w.drewN (a + n)).drewN m) :
    Calls P f args (w.drewN (a + n)) fun e w'' => e = .returned v ∧ ∃ m, w'' = w.drewN (a + m) :=
  h.mono fun _ _ ⟨he, m, hm⟩ => ⟨he, n + m, by rw [hm, World.drewN_drewN, Nat.add_assoc]⟩

theorem drewN_cell (w : World) (n : Nat) (a : Addr) : (w.drewN n).cell? a = w.cell? a := rfl

theorem tail_more {w : World} {b o c : Nat} {x : ByteArray} {L : List ByteArray} (hc : L.length + 1 ≤ c) (hm : c ≤ 9223372036854775807)
    (h : ∀ i y, (x :: L)[i]? = some y → w.cell? ⟨b, o + i, none⟩ = some (.string y)) (m : Nat) : StrsAt (w.drewN m) (.slice (some ⟨b, o + 1, none⟩) L.length (c - 1)) L :=
  ⟨_, _, rfl, by omega, by unfold maxLen; omega, .inr ⟨b, o + 1, rfl, fun i y hy => by rw [drewN_cell, Nat.add_assoc, Nat.add_comm 1 i]; exact h (i + 1) y hy⟩⟩

theorem tail_none (w : World) (a : Option Addr) (m : Nat) : StrsAt (w.drewN m) (.slice a 0 0) [] := ⟨_, _, rfl, Nat.le_refl _, Nat.zero_le _, .inl rfl⟩

end Go.Proofs.YtgnffkahlniehaaGreat

/- Proved here: the contracts of topic.Join and topic.Shared. -/
namespace Go.Proofs.YtgnffkahlniehaaGreat
open Go.RowKit Go.Proofs.Tp

theorem join_any (L : List ByteArray) (v : Value) (w : World) (h : StrsAt w v L) (hL : 0 < L.length) (hn : L.length ≤ 1000000001) (hsz : (joinT L).size ≤ 1000000000) :
    Calls Tryz.prog 64 #[v] w fun e w' => e = .returned (.string (joinT L)) ∧ Below w.heap.size w w' := by
  obtain ⟨b, off, cap, rfl, h1, h2, h3, h4⟩ := h.open hL
  have HJ := Lib.hid (Tryz.strings_Join b off cap L ⟨#[47]⟩ w h4 h3 (by omega) h1 (by rw [show (⟨#[47]⟩ : ByteArray).data.toList = [47] from rfl, ← joinT_data, ← size_eq]; omega))
  clear h4
  go_enter Tryz.func64, Tryz.ntmps64
  go_wp2_with fail
  refine HJ.out.mono ?_
  rintro e w1 ⟨rfl, hb⟩
  go_wp2_with fail
  go_ret
  exact ⟨rfl, hb⟩

def sharedV (s : ByteArray) : Value := match shared s with
  | none => .tuple #[.string ⟨#[]⟩, .string ⟨#[]⟩, .bool false]
  | some (g, i) => .tuple #[.string g, .string i, .bool true]

theorem sharedV_none {s : ByteArray} (h : shared s = none) : sharedV s = .tuple #[.string ⟨#[]⟩, .string ⟨#[]⟩, .bool false] := by unfold sharedV; rw [h]
theorem sharedV_some {s g i : ByteArray} (h : shared s = some (g, i)) : sharedV s = .tuple #[.string g, .string i, .bool true] := by unfold sharedV; rw [h]

theorem tail_two {w w2 : World} {b o c n : Nat} {a g x : ByteArray} {r L : List ByteArray} (hL : L = a :: g :: x :: r) (hn : L.length = n) (h3 : 3 ≤ n) (hc : n ≤ c) (hm : c ≤ 9223372036854775807)
    (h : ∀ i y, L[i]? = some y → w.cell? ⟨b, o + i, none⟩ = some (.string y)) (hb : Below w.heap.size w w2) : StrsAt w2 (.slice (some ⟨b, o + 2, none⟩) (n - 2) (c - 2)) (x :: r) := by
  subst hL
  have hl : (x :: r).length = n - 2 := by simp at hn ⊢; omega
  refine StrsAt.below (w := w) ?_ hb
  refine ⟨_, _, by rw [hl], by rw [hl]; omega, by unfold maxLen; omega, .inr ⟨b, o + 2, rfl, fun i y hy => ?_⟩⟩
  rw [Nat.add_assoc, Nat.add_comm 2 i]
  exact h (i + 2) y hy

set_option maxHeartbeats 2000000 in
set_option maxRecDepth 100000 in
theorem shared_any (s : ByteArray) (w : World) (hs : s.size ≤ 1000000000) :
    Calls Tryz.prog 35 #[.string s] w fun e w' => e = .returned (sharedV s) ∧ Below w.heap.size w w' := by
  have hl := levels_len s hs
  have hsh : shared s = match levels s with
    | a :: g :: x :: r => if a.data.toList = [36, 115, 104, 97, 114, 101] ∧ chk g = 0 ∧ chkF (joinT (x :: r)) = 0 ∧ chkF s = 0 then some (g, joinT (x :: r)) else none
    | _ => none := rfl
  by_cases h3 : (levels s).length < 3
  · have h3I : ((levels s).length : Int) < 3 := by omega
    have hv : sharedV s = .tuple #[.string ⟨#[]⟩, .string ⟨#[]⟩, .bool false] := by
      apply sharedV_none
      rw [hsh]
      match hL : levels s with
      | [] => rfl
      | [a] => rfl
      | [a, g] => rfl
      | a :: g :: x :: r => rw [hL] at h3; simp at h3; omega
    have HV := Lib.hid hv
    clear hv hsh
    go_enter Tryz.func35, Tryz.ntmps35
    go_wp2_with fail
    refine (levels_any s _ hs).mono ?_
    rintro e w1 ⟨v, rfl, hown, hb⟩
    obtain ⟨b, off, cap, rfl, q1, q2, q3, q4⟩ := (StrsAt.of_owns hown).open hl.1
    clear q4 hown
    go_wp2_with fail
    go_ret3
    exact ⟨by rw [HV.out]; rfl, hb⟩
  · obtain ⟨a, g, x, r, hL⟩ : ∃ a g x r, levels s = a :: g :: x :: r := by
      match hL : levels s with
      | [] => rw [hL] at h3; simp at h3
      | [a] => rw [hL] at h3; simp at h3
      | [a, g] => rw [hL] at h3; simp at h3
      | a :: g :: x :: r => exact ⟨a, g, x, r, rfl⟩
    rw [hL] at hsh
    simp only at hsh
    obtain ⟨n, hnn⟩ : ∃ n, (levels s).length = n := ⟨_, rfl⟩
    have hn3 : 3 ≤ n := by omega
    have hn4 : n ≤ 1000000001 := by omega
    have hi := inner_size s a g x r hL
    have hgs : g.size ≤ 1000000000 := by omega
    have his : (joinT (x :: r)).size ≤ 1000000000 := by omega
    clear h3 hi
    by_cases ca : a.data.toList = [36, 115, 104, 97, 114, 101]
    · have fa : (a.toList == [36, 115, 104, 97, 114, 101]) = true := by rw [strEq, decide_eq_true ca]
      have fa2 : (a.toList != [36, 115, 104, 97, 114, 101]) = false := by unfold bne; rw [fa]; rfl
      by_cases cg : chk g = 0
      · have fg : (chk g != 0) = false := by rw [cg]; rfl
        by_cases ci : chkF (joinT (x :: r)) = 0
        · have fi : (chkF (joinT (x :: r)) != 0) = false := by rw [ci]; rfl
          by_cases cs : chkF s = 0
          · have fs : (chkF s != 0) = false := by rw [cs]; rfl
            have HV := Lib.hid (sharedV_some (s := s) (g := g) (i := joinT (x :: r)) (by rw [hsh, if_pos ⟨ca, cg, ci, cs⟩]))
            clear ca cg ci cs hsh
            go_enter Tryz.func35, Tryz.ntmps35
            go_wp2_with fail
            refine (levels_any s _ hs).mono ?_
            rintro e w1 ⟨v, rfl, hown, hb⟩
            obtain ⟨b, off, cap, rfl, q1, q2, q3, q4⟩ := (StrsAt.of_owns hown).open hl.1
            have Q4 := Lib.hid q4
            have HL := Lib.hid hL
            have HN := Lib.hid hnn
            have ha : w1.cell? ⟨b, off, none⟩ = some (.string a) := q4 0 a (by rw [hL]; rfl)
            have hg : w1.cell? ⟨b, off + 1, none⟩ = some (.string g) := q4 1 g (by rw [hL]; rfl)
            clear q4 hown hL
            rw [hnn] at q1 ⊢
            clear hnn
            go_wp2_with fail
            refine (check_any g _ hgs).mono ?_
            rintro e w2 ⟨rfl, hb2⟩
            go_wp2_with fail
            refine (join_any (x :: r) _ _ (tail_two HL.out HN.out hn3 q1 q2 Q4.out hb2) (by simp) (by have := HN.out; rw [HL.out] at this; simp at this ⊢; omega) his).mono ?_
            rintro e w3 ⟨rfl, hb3⟩
            have HB3 := Lib.hid ((hb.trans (hb2.mono hb.size)).trans (hb3.mono (Nat.le_trans hb.size hb2.size)))
            have hz3 : w.heap.size ≤ w3.heap.size := HB3.out.size
            go_wp2_with fail
            refine (checkFilter_any _ _ his).mono ?_
            rintro e w4 ⟨rfl, hb4⟩
            have hg5 := ((hb3.cell (p := ⟨b, off + 1, none⟩) (Nat.lt_of_lt_of_le q3 hb2.size)).trans ((hb2.cell (p := ⟨b, off + 1, none⟩) q3).trans hg))
            have hz2 := hb3.size
            have hg6 := (hb4.cell (p := ⟨b, off + 1, none⟩) (by have := hb2.size; simp; omega)).trans hg5
            go_wp2_with fail
            refine (checkFilter_any _ _ hs).mono ?_
            rintro e w5 ⟨rfl, hb5⟩
            have hg7 := (hb5.cell (p := ⟨b, off + 1, none⟩) (by have := hb2.size; have := hb4.size; simp; omega)).trans hg6
            go_wp2_with fail
            go_ret3
            exact ⟨by rw [HV.out]; rfl, (HB3.out.trans (hb4.mono hz3)).trans (hb5.mono (Nat.le_trans hz3 hb4.size))⟩
          · have fs : (chkF s != 0) = true := by rw [bne_iff_ne]; exact cs
            have HV := Lib.hid (sharedV_none (s := s) (by rw [hsh, if_neg (fun h => cs h.2.2.2)]))
            clear ca cg ci cs hsh
            go_enter Tryz.func35, Tryz.ntmps35
            go_wp2_with fail
            refine (levels_any s _ hs).mono ?_
            rintro e w1 ⟨v, rfl, hown, hb⟩
            obtain ⟨b, off, cap, rfl, q1, q2, q3, q4⟩ := (StrsAt.of_owns hown).open hl.1
            have Q4 := Lib.hid q4
            have HL := Lib.hid hL
            have HN := Lib.hid hnn
            have ha : w1.cell? ⟨b, off, none⟩ = some (.string a) := q4 0 a (by rw [hL]; rfl)
            have hg : w1.cell? ⟨b, off + 1, none⟩ = some (.string g) := q4 1 g (by rw [hL]; rfl)
            clear q4 hown hL
            rw [hnn] at q1 ⊢
            clear hnn
            go_wp2_with fail
            refine (check_any g _ hgs).mono ?_
            rintro e w2 ⟨rfl, hb2⟩
            go_wp2_with fail
            refine (join_any (x :: r) _ _ (tail_two HL.out HN.out hn3 q1 q2 Q4.out hb2) (by simp) (by have := HN.out; rw [HL.out] at this; simp at this ⊢; omega) his).mono ?_
            rintro e w3 ⟨rfl, hb3⟩
            have HB3 := Lib.hid ((hb.trans (hb2.mono hb.size)).trans (hb3.mono (Nat.le_trans hb.size hb2.size)))
            have hz3 : w.heap.size ≤ w3.heap.size := HB3.out.size
            go_wp2_with fail
            refine (checkFilter_any _ _ his).mono ?_
            rintro e w4 ⟨rfl, hb4⟩
            go_wp2_with fail
            refine (checkFilter_any _ _ hs).mono ?_
            rintro e w5 ⟨rfl, hb5⟩
            go_wp2_with fail
            go_ret3
            exact ⟨by rw [HV.out]; rfl, (HB3.out.trans (hb4.mono hz3)).trans (hb5.mono (Nat.le_trans hz3 hb4.size))⟩
        · have fi : (chkF (joinT (x :: r)) != 0) = true := by rw [bne_iff_ne]; exact ci
          have HV := Lib.hid (sharedV_none (s := s) (by rw [hsh, if_neg (fun h => ci h.2.2.1)]))
          clear ca cg ci hsh
          go_enter Tryz.func35, Tryz.ntmps35
          go_wp2_with fail
          refine (levels_any s _ hs).mono ?_
          rintro e w1 ⟨v, rfl, hown, hb⟩
          obtain ⟨b, off, cap, rfl, q1, q2, q3, q4⟩ := (StrsAt.of_owns hown).open hl.1
          have Q4 := Lib.hid q4
          have HL := Lib.hid hL
          have HN := Lib.hid hnn
          have ha : w1.cell? ⟨b, off, none⟩ = some (.string a) := q4 0 a (by rw [hL]; rfl)
          have hg : w1.cell? ⟨b, off + 1, none⟩ = some (.string g) := q4 1 g (by rw [hL]; rfl)
          clear q4 hown hL
          rw [hnn] at q1 ⊢
          clear hnn
          go_wp2_with fail
          refine (check_any g _ hgs).mono ?_
          rintro e w2 ⟨rfl, hb2⟩
          go_wp2_with fail
          refine (join_any (x :: r) _ _ (tail_two HL.out HN.out hn3 q1 q2 Q4.out hb2) (by simp) (by have := HN.out; rw [HL.out] at this; simp at this ⊢; omega) his).mono ?_
          rintro e w3 ⟨rfl, hb3⟩
          have HB3 := Lib.hid ((hb.trans (hb2.mono hb.size)).trans (hb3.mono (Nat.le_trans hb.size hb2.size)))
          have hz3 : w.heap.size ≤ w3.heap.size := HB3.out.size
          go_wp2_with fail
          refine (checkFilter_any _ _ his).mono ?_
          rintro e w4 ⟨rfl, hb4⟩
          go_wp2_with fail
          go_ret3
          exact ⟨by rw [HV.out]; rfl, HB3.out.trans (hb4.mono hz3)⟩
      · have fg : (chk g != 0) = true := by rw [bne_iff_ne]; exact cg
        have HV := Lib.hid (sharedV_none (s := s) (by rw [hsh, if_neg (fun h => cg h.2.1)]))
        clear ca cg hsh
        go_enter Tryz.func35, Tryz.ntmps35
        go_wp2_with fail
        refine (levels_any s _ hs).mono ?_
        rintro e w1 ⟨v, rfl, hown, hb⟩
        obtain ⟨b, off, cap, rfl, q1, q2, q3, q4⟩ := (StrsAt.of_owns hown).open hl.1
        have Q4 := Lib.hid q4
        have HL := Lib.hid hL
        have HN := Lib.hid hnn
        have ha : w1.cell? ⟨b, off, none⟩ = some (.string a) := q4 0 a (by rw [hL]; rfl)
        have hg : w1.cell? ⟨b, off + 1, none⟩ = some (.string g) := q4 1 g (by rw [hL]; rfl)
        clear q4 hown hL
        rw [hnn] at q1 ⊢
        clear hnn
        go_wp2_with fail
        refine (check_any g _ hgs).mono ?_
        rintro e w2 ⟨rfl, hb2⟩
        go_wp2_with fail
        go_ret3
        exact ⟨by rw [HV.out]; rfl, hb.trans (hb2.mono hb.size)⟩
    · have fa : (a.toList == [36, 115, 104, 97, 114, 101]) = false := by rw [strEq, decide_eq_false ca]
      have fa2 : (a.toList != [36, 115, 104, 97, 114, 101]) = true := by unfold bne; rw [fa]; rfl
      have HV := Lib.hid (sharedV_none (s := s) (by rw [hsh, if_neg (fun h => ca h.1)]))
      clear ca hsh
      go_enter Tryz.func35, Tryz.ntmps35
      go_wp2_with fail
      refine (levels_any s _ hs).mono ?_
      rintro e w1 ⟨v, rfl, hown, hb⟩
      obtain ⟨b, off, cap, rfl, q1, q2, q3, q4⟩ := (StrsAt.of_owns hown).open hl.1
      have Q4 := Lib.hid q4
      have HL := Lib.hid hL
      have HN := Lib.hid hnn
      have ha : w1.cell? ⟨b, off, none⟩ = some (.string a) := q4 0 a (by rw [hL]; rfl)
      have hg : w1.cell? ⟨b, off + 1, none⟩ = some (.string g) := q4 1 g (by rw [hL]; rfl)
      clear q4 hown hL
      rw [hnn] at q1 ⊢
      clear hnn
      go_wp2_with fail
      go_ret3
      exact ⟨by rw [HV.out]; rfl, hb⟩

end Go.Proofs.YtgnffkahlniehaaGreat

/- Plain: small facts for the walk of Match. -/
namespace Go.Proofs.YtgnffkahlniehaaGreat
open Go.RowKit Go.Proofs.Tp

theorem chk_size {t : ByteArray} (h : chk t = 0) : 0 < t.size := by
  unfold chk at h
  by_cases h0 : t.size = 0
  · have : textE t = 50 := by unfold textE; rw [if_pos h0]
    rw [this] at h; simp at h
  · omega

theorem head_eq (t : ByteArray) (h : 0 < t.size) : (t.data.toList.head? = some 36) = (t[0].toNat = 36) := by
  have hl : 0 < t.data.toList.length := by simpa using h
  have e : t.data.toList.head? = some t[0] := by
    rw [List.head?_eq_getElem?, List.getElem?_eq_getElem hl]; rfl
  rw [e]
  apply propext
  constructor
  · intro x; rw [Option.some.inj x]; rfl
  · intro x; congr 1; exact UInt8.toNat.inj x

end Go.Proofs.YtgnffkahlniehaaGreat
