/- Plain law: the levels of a text, as the program reckons them byte by byte. No program in sight. -/
import GoSem.Core.Utf8
import Derived.Laws.RangeAny
namespace Go.Proofs.Tp
open Go

/-- One byte: what is cut off so far, and where the level that is open begins. -/
def lvStep (s : ByteArray) (st : List ByteArray × Nat) (i : Nat) : List ByteArray × Nat :=
  if s.data.toList[i]? = some 47 then (st.1 ++ [s.extract st.2 i], i + 1) else st

/-- Behind the first n bytes. -/
def lvTo (s : ByteArray) (n : Nat) : List ByteArray × Nat := (List.range n).foldl (lvStep s) ([], 0)

/-- The levels of a text. -/
def levels (s : ByteArray) : List ByteArray := (lvTo s s.size).1 ++ [s.extract (lvTo s s.size).2 s.size]

theorem lvTo_succ (s : ByteArray) (n : Nat) : lvTo s (n + 1) = lvStep s (lvTo s n) n := by
  simp [lvTo, List.range_succ]

theorem lvTo_le (s : ByteArray) : ∀ n, (lvTo s n).2 ≤ n ∧ (lvTo s n).1.length ≤ n
  | 0 => by simp [lvTo]
  | n + 1 => by
    have h := lvTo_le s n
    rw [lvTo_succ]; unfold lvStep; split
    · simp; omega
    · omega

/-- A byte at or above 128 cuts nothing. -/
theorem lvTo_high (s : ByteArray) (n : Nat) (h : s.data.toList[n]? ≠ some 47) : lvTo s (n + 1) = lvTo s n := by
  rw [lvTo_succ]; unfold lvStep; rw [if_neg h]

theorem lvTo_jump (s : ByteArray) (n k : Nat) (h : ∀ j, j < k → s.data.toList[n + j]? ≠ some 47) : lvTo s (n + k) = lvTo s n := by
  induction k with
  | zero => rfl
  | succ k ih =>
    rw [← Nat.add_assoc, lvTo_high s (n + k) (h k (by omega))]
    exact ih (fun j hj => h j (by omega))

theorem get_toList (s : ByteArray) (i : Nat) (h : i < s.size) : s.data.toList[i]? = some (s.get! i) := by
  have h' : i < s.data.toList.length := by simpa using h
  rw [List.getElem?_eq_getElem h']
  congr 1
  simp [ByteArray.get!, getElem!_pos, h]

/-- Of the bytes that one decoding takes, none but the first of a width of one is the ASCII byte k; that one is it just where the code is k's number. -/
theorem decode_byte (s : ByteArray) (pos : Nat) (h : pos < s.size) (k : UInt8) (hk : k.toNat < 128) :
    (((Utf8.decode s pos).1 = k.toNat ∧ (Utf8.decode s pos).2 = 1 ∧ s.data.toList[pos]? = some k) ∨
      ((Utf8.decode s pos).1 ≠ k.toNat ∧ ∀ j, j < (Utf8.decode s pos).2 → s.data.toList[pos + j]? ≠ some k)) ∧
    1 ≤ (Utf8.decode s pos).2 ∧ pos + (Utf8.decode s pos).2 ≤ s.size := by
  have h0 := get_toList s pos h
  simp only [Utf8.decode, Nat.add_zero]
  have key : ∀ j, j + pos < s.size → (s.get! (pos + j)).toNat / 64 = 2 → s.data.toList[pos + j]? ≠ some k := by
    intro j hj hc
    rw [get_toList s (pos + j) (by omega)]
    intro e
    rw [Option.some.inj e] at hc
    omega
  have key0 : ¬ (s.get! pos).toNat < 128 → s.data.toList[pos]? ≠ some k := by
    intro hn e
    rw [h0] at e
    rw [Option.some.inj e] at hn
    exact hn hk
  have one : ¬ (s.get! pos).toNat < 128 → ∀ j, j < 1 → s.data.toList[pos + j]? ≠ some k := by
    intro hn j hj
    obtain rfl : j = 0 := by omega
    exact key0 hn
  split
  · rename_i ha
    refine ⟨?_, Nat.le_refl _, h⟩
    by_cases e : (s.get! pos).toNat = k.toNat
    · left
      refine ⟨e, rfl, ?_⟩
      rw [h0]
      congr 1
      exact UInt8.toNat.inj e
    · right
      refine ⟨e, ?_⟩
      intro j hj
      obtain rfl : j = 0 := by omega
      simp only [Nat.add_zero]
      rw [h0]
      intro e'
      exact e (by rw [Option.some.inj e'])
  · rename_i ha
    have many : ∀ n, n ≤ 4 → (1 < n → pos + 1 < s.size ∧ (s.get! (pos + 1)).toNat / 64 = 2) → (2 < n → pos + 2 < s.size ∧ (s.get! (pos + 2)).toNat / 64 = 2) →
        (3 < n → pos + 3 < s.size ∧ (s.get! (pos + 3)).toNat / 64 = 2) → ∀ j, j < n → s.data.toList[pos + j]? ≠ some k := by
      intro n hn h1 h2 h3 j hj
      match j, hj with
      | 0, _ => exact key0 ha
      | 1, hj => exact key 1 (by have := (h1 (by omega)).1; omega) (h1 (by omega)).2
      | 2, hj => exact key 2 (by have := (h2 (by omega)).1; omega) (h2 (by omega)).2
      | 3, hj => exact key 3 (by have := (h3 (by omega)).1; omega) (h3 (by omega)).2
      | j + 4, hj => omega
    have fff : Utf8.runeError ≠ k.toNat := by unfold Utf8.runeError; omega
    simp only [Bool.and_eq_true, decide_eq_true_eq, beq_iff_eq]
    split
    · rename_i hc
      split
      · exact ⟨.inr ⟨by dsimp only; omega, many 2 (by omega) (fun _ => hc.2) (by omega) (by omega)⟩, by dsimp only; omega, by dsimp only; omega⟩
      · exact ⟨.inr ⟨fff, one ha⟩, Nat.le_refl _, h⟩
    · split
      · rename_i hc
        split
        · exact ⟨.inr ⟨by dsimp only; omega, many 3 (by omega) (fun _ => hc.1.2) (fun _ => hc.2) (by omega)⟩, by dsimp only; omega, by dsimp only; omega⟩
        · exact ⟨.inr ⟨fff, one ha⟩, Nat.le_refl _, h⟩
      · split
        · rename_i hc
          split
          · exact ⟨.inr ⟨by dsimp only; omega, many 4 (by omega) (fun _ => hc.1.1.2) (fun _ => hc.1.2) (fun _ => hc.2)⟩, by dsimp only; omega, by dsimp only; omega⟩
          · exact ⟨.inr ⟨fff, one ha⟩, Nat.le_refl _, h⟩
        · exact ⟨.inr ⟨fff, one ha⟩, Nat.le_refl _, h⟩

/-! ### Well-formed texts, a byte at a time: what is still to come of a code point is kept as bounds. -/

/-- The bounds of the bytes that go on behind one with which a code point begins; none: no code point that may stand begins so (0 may not). -/
def need (c : Nat) : Option (List (Nat × Nat)) :=
  if c = 0 then none else if c < 128 then some [] else if c < 194 then none else if c < 224 then some [(128, 191)]
  else if c = 224 then some [(160, 191), (128, 191)] else if c = 237 then some [(128, 159), (128, 191)] else if c < 240 then some [(128, 191), (128, 191)]
  else if c = 240 then some [(144, 191), (128, 191), (128, 191)] else if c < 244 then some [(128, 191), (128, 191), (128, 191)]
  else if c = 244 then some [(128, 143), (128, 191), (128, 191)] else none

def utf : List (Nat × Nat) → List UInt8 → Bool
  | [], [] => true
  | _ :: _, [] => false
  | [], c :: r => match need c.toNat with
    | none => false
    | some p => utf p r
  | b :: p, c :: r => decide (b.1 ≤ c.toNat) && decide (c.toNat ≤ b.2) && utf p r

theorem utf_nil (c : UInt8) (r : List UInt8) : utf [] (c :: r) = match need c.toNat with | none => false | some p => utf p r := by rw [utf]
theorem utf_cons (b : Nat × Nat) (p : List (Nat × Nat)) (c : UInt8) (r : List UInt8) : utf (b :: p) (c :: r) = (decide (b.1 ≤ c.toNat) && decide (c.toNat ≤ b.2) && utf p r) := by rw [utf]
theorem utf_short (b : Nat × Nat) (p : List (Nat × Nat)) : utf (b :: p) [] = false := by rw [utf]

theorem drop_get (s : ByteArray) (i : Nat) (h : i < s.size) : s.data.toList.drop i = s.get! i :: s.data.toList.drop (i + 1) := by
  have h' : i < s.data.toList.length := by simpa using h
  rw [List.drop_eq_getElem_cons h']
  congr 1
  have := get_toList s i h
  rw [List.getElem?_eq_getElem h'] at this
  exact Option.some.inj this

theorem drop_end (s : ByteArray) (i : Nat) (h : ¬ i < s.size) : s.data.toList.drop i = [] := by
  rw [List.drop_eq_nil_iff]; simpa using Nat.le_of_not_lt h

theorem utf_step (b : Nat × Nat) (p : List (Nat × Nat)) (s : ByteArray) (i : Nat) :
    utf (b :: p) (s.data.toList.drop i) = if i < s.size ∧ b.1 ≤ (s.get! i).toNat ∧ (s.get! i).toNat ≤ b.2 then utf p (s.data.toList.drop (i + 1)) else false := by
  by_cases h : i < s.size
  · rw [drop_get s i h, utf_cons]
    by_cases h1 : b.1 ≤ (s.get! i).toNat <;> by_cases h2 : (s.get! i).toNat ≤ b.2 <;> simp [h, h1, h2]
  · rw [drop_end s i h, utf_short, if_neg (by omega)]

/-- The decoding in numbers: of n bytes that are left, the first four. -/
def decN (n c0 c1 c2 c3 : Nat) : Nat × Nat :=
  if c0 < 128 then (c0, 1)
  else if c0 / 32 = 6 ∧ 1 < n ∧ c1 / 64 = 2 then (if c0 % 32 * 64 + c1 % 64 ≥ 128 then (c0 % 32 * 64 + c1 % 64, 2) else (65533, 1))
  else if (c0 / 16 = 14 ∧ 1 < n ∧ c1 / 64 = 2) ∧ 2 < n ∧ c2 / 64 = 2 then
    (if c0 % 16 * 4096 + c1 % 64 * 64 + c2 % 64 ≥ 2048 ∧ (c0 % 16 * 4096 + c1 % 64 * 64 + c2 % 64 < 55296 ∨ 57344 ≤ c0 % 16 * 4096 + c1 % 64 * 64 + c2 % 64 ∧ c0 % 16 * 4096 + c1 % 64 * 64 + c2 % 64 ≤ 1114111)
      then (c0 % 16 * 4096 + c1 % 64 * 64 + c2 % 64, 3) else (65533, 1))
  else if ((c0 / 8 = 30 ∧ 1 < n ∧ c1 / 64 = 2) ∧ 2 < n ∧ c2 / 64 = 2) ∧ 3 < n ∧ c3 / 64 = 2 then
    (if c0 % 8 * 262144 + c1 % 64 * 4096 + c2 % 64 * 64 + c3 % 64 ≥ 65536 ∧ (c0 % 8 * 262144 + c1 % 64 * 4096 + c2 % 64 * 64 + c3 % 64 < 55296 ∨ 57344 ≤ c0 % 8 * 262144 + c1 % 64 * 4096 + c2 % 64 * 64 + c3 % 64 ∧ c0 % 8 * 262144 + c1 % 64 * 4096 + c2 % 64 * 64 + c3 % 64 ≤ 1114111)
      then (c0 % 8 * 262144 + c1 % 64 * 4096 + c2 % 64 * 64 + c3 % 64, 4) else (65533, 1))
  else (65533, 1)

theorem valid_nat (c : Nat) : Utf8.valid (c : Int) = true ↔ (c < 55296 ∨ (57344 ≤ c ∧ c ≤ 1114111)) := by
  unfold Utf8.valid
  rw [Bool.or_eq_true, Bool.and_eq_true, Bool.and_eq_true, decide_eq_true_iff, decide_eq_true_iff, decide_eq_true_iff, decide_eq_true_iff]
  omega

theorem decode_eq (s : ByteArray) (pos : Nat) (h : pos < s.size) :
    Utf8.decode s pos = decN (s.size - pos) (s.get! pos).toNat (s.get! (pos + 1)).toNat (s.get! (pos + 2)).toNat (s.get! (pos + 3)).toNat := by
  have b0 := (s.get! pos).toNat_lt
  unfold Utf8.decode decN
  obtain ⟨n, hn⟩ : ∃ n, n = s.size - pos := ⟨_, rfl⟩
  rw [← hn]
  have e1 : (pos + 1 < s.size) = (1 < n) := by simp; omega
  have e2 : (pos + 2 < s.size) = (2 < n) := by simp; omega
  have e3 : (pos + 3 < s.size) = (3 < n) := by simp; omega
  clear hn
  simp only [Nat.add_zero, e1, e2, e3, valid_nat, Bool.and_eq_true, decide_eq_true_eq, beq_iff_eq, Utf8.runeError]

theorem decN_short (n c0 c1 c2 c3 : Nat) (h : decN n c0 c1 c2 c3 = (65533, 1)) : ((decN n c0 c1 c2 c3).1 = 0 ∨ ((decN n c0 c1 c2 c3).1 = 65533 ∧ (decN n c0 c1 c2 c3).2 = 1)) := by
  rw [h]; exact .inr ⟨rfl, rfl⟩

/-- One decoding: it is amiss just where the text is not well-formed there; else what is behind it decides. -/
theorem decode_utf (s : ByteArray) (pos : Nat) (h : pos < s.size) :
    (((Utf8.decode s pos).1 = 0 ∨ ((Utf8.decode s pos).1 = 65533 ∧ (Utf8.decode s pos).2 = 1)) ∧ utf [] (s.data.toList.drop pos) = false) ∨
    ((Utf8.decode s pos).1 ≠ 0 ∧ ¬ ((Utf8.decode s pos).1 = 65533 ∧ (Utf8.decode s pos).2 = 1) ∧ utf [] (s.data.toList.drop pos) = utf [] (s.data.toList.drop (pos + (Utf8.decode s pos).2))) := by
  rw [drop_get s pos h, utf_nil, decode_eq s pos h]
  have b0 := (s.get! pos).toNat_lt; have b1 := (s.get! (pos + 1)).toNat_lt; have b2 := (s.get! (pos + 2)).toNat_lt; have b3 := (s.get! (pos + 3)).toNat_lt
  have u1 := fun b p => utf_step b p s (pos + 1)
  have u2 := fun b p => utf_step b p s (pos + 2)
  have u3 := fun b p => utf_step b p s (pos + 3)
  obtain ⟨n, hn⟩ : ∃ n, n = s.size - pos := ⟨_, rfl⟩
  rw [← hn]
  have e1 : (pos + 1 < s.size) = (1 < n) := by simp; omega
  have e2 : (pos + 2 < s.size) = (2 < n) := by simp; omega
  have e3 : (pos + 3 < s.size) = (3 < n) := by simp; omega
  have hn0 : 0 < n := by omega
  simp only [e1] at u1
  simp only [e2, Nat.add_assoc, Nat.reduceAdd] at u2
  simp only [e3, Nat.add_assoc, Nat.reduceAdd] at u3
  simp only [Nat.add_assoc, Nat.reduceAdd] at u1
  clear e1 e2 e3 h hn
  generalize (s.get! pos).toNat = c0 at *
  generalize (s.get! (pos + 1)).toNat = c1 at *
  generalize (s.get! (pos + 2)).toNat = c2 at *
  generalize (s.get! (pos + 3)).toNat = c3 at *
  generalize s.data.toList = l at *
  by_cases z : c0 = 0
  · left; subst z; exact ⟨.inl (by simp [decN]), by simp [need]⟩
  by_cases r0 : c0 < 128
  · right
    have hd : decN n c0 c1 c2 c3 = (c0, 1) := by unfold decN; rw [if_pos r0]
    rw [hd]
    refine ⟨z, by dsimp only; omega, ?_⟩
    simp [need, z, r0]
  by_cases r1 : c0 < 194
  · left
    have hd : decN n c0 c1 c2 c3 = (65533, 1) := by unfold decN; rw [if_neg r0]; split; (rw [if_neg (by omega)]); rw [if_neg (by omega), if_neg (by omega)]
    refine ⟨decN_short _ _ _ _ _ hd, ?_⟩
    have : need c0 = none := by unfold need; rw [if_neg z, if_neg r0, if_pos r1]
    rw [this]
  by_cases r2 : c0 < 224
  · have hne : need c0 = some [(128, 191)] := by unfold need; rw [if_neg z, if_neg r0, if_neg r1, if_pos r2]
    rw [hne]; simp only [u1]
    by_cases g1 : 1 < n ∧ 128 ≤ c1 ∧ c1 ≤ 191
    · right
      have hd : decN n c0 c1 c2 c3 = ((c0 % 32) * 64 + c1 % 64, 2) := by unfold decN; rw [if_neg r0, if_pos (by omega), if_pos (by omega)]
      rw [hd, if_pos g1]
      exact ⟨by dsimp only; omega, by dsimp only; omega, rfl⟩
    · left
      have hd : decN n c0 c1 c2 c3 = (65533, 1) := by unfold decN; rw [if_neg r0, if_neg (by omega), if_neg (by omega), if_neg (by omega)]
      exact ⟨decN_short _ _ _ _ _ hd, by rw [if_neg g1]⟩
  by_cases r3 : c0 < 240
  · obtain ⟨lo, hi, hne, hlo⟩ : ∃ lo hi, need c0 = some [(lo, hi), (128, 191)] ∧ ((c0 = 224 ∧ lo = 160 ∧ hi = 191) ∨ (c0 = 237 ∧ lo = 128 ∧ hi = 159) ∨ (c0 ≠ 224 ∧ c0 ≠ 237 ∧ lo = 128 ∧ hi = 191)) := by
      by_cases q1 : c0 = 224
      · exact ⟨160, 191, by subst q1; rfl, .inl ⟨q1, rfl, rfl⟩⟩
      by_cases q2 : c0 = 237
      · exact ⟨128, 159, by subst q2; rfl, .inr (.inl ⟨q2, rfl, rfl⟩)⟩
      · exact ⟨128, 191, by unfold need; rw [if_neg z, if_neg r0, if_neg r1, if_neg r2, if_neg q1, if_neg q2, if_pos r3], .inr (.inr ⟨q1, q2, rfl, rfl⟩)⟩
    rw [hne]; simp only [u1, u2]
    by_cases g1 : (1 < n ∧ lo ≤ c1 ∧ c1 ≤ hi) ∧ 2 < n ∧ 128 ≤ c2 ∧ c2 ≤ 191
    · right
      have hd : decN n c0 c1 c2 c3 = ((c0 % 16) * 4096 + (c1 % 64) * 64 + c2 % 64, 3) := by unfold decN; rw [if_neg r0, if_neg (by omega), if_pos (by omega), if_pos (by omega)]
      rw [hd, if_pos g1.1, if_pos g1.2]
      exact ⟨by dsimp only; omega, by dsimp only; omega, rfl⟩
    · left
      have hd : decN n c0 c1 c2 c3 = (65533, 1) := by
        unfold decN; rw [if_neg r0, if_neg (by omega)]
        split
        · rw [if_neg (by omega)]
        · rw [if_neg (by omega)]
      refine ⟨decN_short _ _ _ _ _ hd, ?_⟩
      by_cases g2 : 1 < n ∧ lo ≤ c1 ∧ c1 ≤ hi
      · rw [if_pos g2, if_neg (fun g3 => g1 ⟨g2, g3⟩)]
      · rw [if_neg g2]
  by_cases r4 : c0 < 245
  · obtain ⟨lo, hi, hne, hlo⟩ : ∃ lo hi, need c0 = some [(lo, hi), (128, 191), (128, 191)] ∧ ((c0 = 240 ∧ lo = 144 ∧ hi = 191) ∨ (c0 = 244 ∧ lo = 128 ∧ hi = 143) ∨ (c0 ≠ 240 ∧ c0 ≠ 244 ∧ lo = 128 ∧ hi = 191)) := by
      by_cases q1 : c0 = 240
      · exact ⟨144, 191, by subst q1; rfl, .inl ⟨q1, rfl, rfl⟩⟩
      by_cases q2 : c0 = 244
      · exact ⟨128, 143, by subst q2; rfl, .inr (.inl ⟨q2, rfl, rfl⟩)⟩
      · exact ⟨128, 191, by unfold need; rw [if_neg z, if_neg r0, if_neg r1, if_neg r2, if_neg (by omega), if_neg (by omega), if_neg r3, if_neg q1, if_pos (by omega)], .inr (.inr ⟨q1, q2, rfl, rfl⟩)⟩
    rw [hne]; simp only [u1, u2, u3]
    by_cases g1 : (1 < n ∧ lo ≤ c1 ∧ c1 ≤ hi) ∧ (2 < n ∧ 128 ≤ c2 ∧ c2 ≤ 191) ∧ 3 < n ∧ 128 ≤ c3 ∧ c3 ≤ 191
    · right
      have hd : decN n c0 c1 c2 c3 = ((c0 % 8) * 262144 + (c1 % 64) * 4096 + (c2 % 64) * 64 + c3 % 64, 4) := by unfold decN; rw [if_neg r0, if_neg (by omega), if_neg (by omega), if_pos (by omega), if_pos (by omega)]
      rw [hd, if_pos g1.1, if_pos g1.2.1, if_pos g1.2.2]
      exact ⟨by dsimp only; omega, by dsimp only; omega, rfl⟩
    · left
      have hd : decN n c0 c1 c2 c3 = (65533, 1) := by
        unfold decN; rw [if_neg r0, if_neg (by omega), if_neg (by omega)]
        split
        · rw [if_neg (by omega)]
        · rfl
      refine ⟨decN_short _ _ _ _ _ hd, ?_⟩
      by_cases g2 : 1 < n ∧ lo ≤ c1 ∧ c1 ≤ hi
      · rw [if_pos g2]
        by_cases g3 : 2 < n ∧ 128 ≤ c2 ∧ c2 ≤ 191
        · rw [if_pos g3, if_neg (fun g4 => g1 ⟨g2, g3, g4⟩)]
        · rw [if_neg g3]
      · rw [if_neg g2]
  · left
    have hd : decN n c0 c1 c2 c3 = (65533, 1) := by
      unfold decN; rw [if_neg r0, if_neg (by omega), if_neg (by omega)]
      split
      · rw [if_neg (by omega)]
      · rfl
    refine ⟨decN_short _ _ _ _ _ hd, ?_⟩
    have : need c0 = none := by unfold need; rw [if_neg z, if_neg r0, if_neg r1, if_neg r2, if_neg (by omega), if_neg (by omega), if_neg r3, if_neg (by omega), if_neg (by omega), if_neg (by omega)]
    rw [this]

end Go.Proofs.Tp
