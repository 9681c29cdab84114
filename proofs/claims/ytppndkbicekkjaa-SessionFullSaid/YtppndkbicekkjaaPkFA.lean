/- A law's row where the call only laid new blocks: of the old memory nothing has turned. -/
import Derived.WalkKit
import Derived.ProofKit
import Derived.Below
import GoSem.Core.Utf8
import Derived.Laws.RangeAny
import Derived.WalkSmall
import Derived.Laws.AppendOwn
import Derived.Maps.AppendAt
import Derived.Deep.AppendSrc
import Derived.Laws.CopyOwn
import Derived.Lib.AppendZerosOnto
import Derived.Lib.Overlaps
import Derived.Shelf.Spec.SlicesInsert
import Derived.Shelf.Spec.SlicesInsertGrow
import Derived.Maps.OwnSet
import Derived.Test.YtppndkbicekkjaaProg
import Derived.Deep.DeepCutAuto
import Derived.WalkSpells
import Derived.Lib.LazyBuf
import Derived.Lib.Hide
namespace Go.Proofs.Ytppndkbicekkjaa
open Go.RowKit Go.WideShapes Go.ChangeShapes

theorem law_post {H : Type} {enc : TypeId × Value → H} {P : Program} {f : Func} {s : ChangeSpec} {apart fresh handsOn : Bool} {W W' : World} {args : Array Value} {v : Value} {ds : List (DataW H)} {before : List MemPlace}
    (hW : DataW.Whole enc P f.params.toList s.vars apart W args.toList ds [] before) (hb : Below W.heap.size W W')
    (hres : ∀ (b : Nat), DataW.TrodAll enc P W' b (fun _ => false) handsOn f.resultTypes.toList (v.resultList f.resultTypes.size) (s.fn H (ds ++ [])).results [])
    (hargs : DataW.TrodAll enc P W' 0 (fun b => decide (b < W.heap.size)) true f.params.toList args.toList (s.fn H (ds ++ [])).args before)
    (hvars : DataW.TrodVars enc P W' (fun b => decide (b < W.heap.size)) s.vars (s.fn H (ds ++ [])).vars []) :
    s.post enc P f apart fresh handsOn false W args v W' :=
  ⟨ds, [], before, [], before, [], hW, hres _, hargs, hvars, hb.frame _, fun h => by cases h⟩

end Go.Proofs.Ytppndkbicekkjaa

/- Plain law: the levels of a text, as the program reckons them byte by byte. No program in sight. -/
namespace Go.Proofs.Tp
open Go

/-- One byte: what is cut off so far, and where the level that is open begins. -/
def lvStep (s : ByteArray) (st : List ByteArray × Nat) (i : Nat) : List ByteArray × Nat :=
  if s.data.toList[i]? = some 47 then (st.1 ++ [s.extract st.2 i], i + 1) else st

/-- Behind the first n bytes. -/
def lvTo (s : ByteArray) (n : Nat) : List ByteArray × Nat := (List.range n).foldl (lvStep s) ([], 0)

/-- The levels of a text. -/
def levels (s : ByteArray) : List ByteArray := (lvTo s s.size).1 ++ [s.extract (lvTo s s.size).2 s.size]

theorem lvTo_succ (s : ByteArray) (n : Nat) : lvTo s (n + 1) = lvStep s (lvTo s n) n := by
  simp [lvTo, List.range_succ]

theorem lvTo_le (s : ByteArray) : ∀ n, (lvTo s n).2 ≤ n ∧ (lvTo s n).1.length ≤ n
  | 0 => by simp [lvTo]
  | n + 1 => by
    have h := lvTo_le s n
    rw [lvTo_succ]; unfold lvStep; split
    · simp; omega
    · omega

/-- A byte at or above 128 cuts nothing. -/
theorem lvTo_high (s : ByteArray) (n : Nat) (h : s.data.toList[n]? ≠ some 47) : lvTo s (n + 1) = lvTo s n := by
  rw [lvTo_succ]; unfold lvStep; rw [if_neg h]

theorem lvTo_jump (s : ByteArray) (n k : Nat) (h : ∀ j, j < k → s.data.toList[n + j]? ≠ some 47) : lvTo s (n + k) = lvTo s n := by
  induction k with
  | zero => rfl
  | succ k ih =>
    rw [← Nat.add_assoc, lvTo_high s (n + k) (h k (by omega))]
    exact ih (fun j hj => h j (by omega))

theorem get_toList (s : ByteArray) (i : Nat) (h : i < s.size) : s.data.toList[i]? = some (s.get! i) := by
  have h' : i < s.data.toList.length := by simpa using h
  rw [List.getElem?_eq_getElem h']
  congr 1
  simp [ByteArray.get!, getElem!_pos, h]

/-- Of the bytes that one decoding takes, none but the first of a width of one is the ASCII byte k; that one is it just where the code is k's number. -/
theorem decode_byte (s : ByteArray) (pos : Nat) (h : pos < s.size) (k : UInt8) (hk : k.toNat < 128) :
    (((Utf8.decode s pos).1 = k.toNat ∧ (Utf8.decode s pos).2 = 1 ∧ s.data.toList[pos]? = some k) ∨
      ((Utf8.decode s pos).1 ≠ k.toNat ∧ ∀ j, j < (Utf8.decode s pos).2 → s.data.toList[pos + j]? ≠ some k)) ∧
    1 ≤ (Utf8.decode s pos).2 ∧ pos + (Utf8.decode s pos).2 ≤ s.size := by
  have h0 := get_toList s pos h
  simp only [Utf8.decode, Nat.add_zero]
  have key : ∀ j, j + pos < s.size → (s.get! (pos + j)).toNat / 64 = 2 → s.data.toList[pos + j]? ≠ some k := by
    intro j hj hc
    rw [get_toList s (pos + j) (by omega)]
    intro e
    rw [Option.some.inj e] at hc
    omega
  have key0 : ¬ (s.get! pos).toNat < 128 → s.data.toList[pos]? ≠ some k := by
    intro hn e
    rw [h0] at e
    rw [Option.some.inj e] at hn
    exact hn hk
  have one : ¬ (s.get! pos).toNat < 128 → ∀ j, j < 1 → s.data.toList[pos + j]? ≠ some k := by
    intro hn j hj
    obtain rfl : j = 0 := by omega
    exact key0 hn
  split
  · rename_i ha
    refine ⟨?_, Nat.le_refl _, h⟩
    by_cases e : (s.get! pos).toNat = k.toNat
    · left
      refine ⟨e, rfl, ?_⟩
      rw [h0]
      congr 1
      exact UInt8.toNat.inj e
    · right
      refine ⟨e, ?_⟩
      intro j hj
      obtain rfl : j = 0 := by omega
      simp only [Nat.add_zero]
      rw [h0]
      intro e'
      exact e (by rw [Option.some.inj e'])
  · rename_i ha
    have many : ∀ n, n ≤ 4 → (1 < n → pos + 1 < s.size ∧ (s.get! (pos + 1)).toNat / 64 = 2) → (2 < n → pos + 2 < s.size ∧ (s.get! (pos + 2)).toNat / 64 = 2) →
        (3 < n → pos + 3 < s.size ∧ (s.get! (pos + 3)).toNat / 64 = 2) → ∀ j, j < n → s.data.toList[pos + j]? ≠ some k := by
      intro n hn h1 h2 h3 j hj
      match j, hj with
      | 0, _ => exact key0 ha
      | 1, hj => exact key 1 (by have := (h1 (by omega)).1; omega) (h1 (by omega)).2
      | 2, hj => exact key 2 (by have := (h2 (by omega)).1; omega) (h2 (by omega)).2
      | 3, hj => exact key 3 (by have := (h3 (by omega)).1; omega) (h3 (by omega)).2
      | j + 4, hj => omega
    have fff : Utf8.runeError ≠ k.toNat := by unfold Utf8.runeError; omega
    simp only [Bool.and_eq_true, decide_eq_true_eq, beq_iff_eq]
    split
    · rename_i hc
      split
      · exact ⟨.inr ⟨by dsimp only; omega, many 2 (by omega) (fun _ => hc.2) (by omega) (by omega)⟩, by dsimp only; omega, by dsimp only; omega⟩
      · exact ⟨.inr ⟨fff, one ha⟩, Nat.le_refl _, h⟩
    · split
      · rename_i hc
        split
        · exact ⟨.inr ⟨by dsimp only; omega, many 3 (by omega) (fun _ => hc.1.2) (fun _ => hc.2) (by omega)⟩, by dsimp only; omega, by dsimp only; omega⟩
        · exact ⟨.inr ⟨fff, one ha⟩, Nat.le_refl _, h⟩
      · split
        · rename_i hc
          split
          · exact ⟨.inr ⟨by dsimp only; omega, many 4 (by omega) (fun _ => hc.1.1.2) (fun _ => hc.1.2) (fun _ => hc.2)⟩, by dsimp only; omega, by dsimp only; omega⟩
          · exact ⟨.inr ⟨fff, one ha⟩, Nat.le_refl _, h⟩
        · exact ⟨.inr ⟨fff, one ha⟩, Nat.le_refl _, h⟩

/-! ### Well-formed texts, a byte at a time: what is still to come of a code point is kept as bounds. -/

/-- The bounds of the bytes that go on behind one with which a code point begins; none: no code point that may stand begins so (0 may not). -/
def need (c : Nat) : Option (List (Nat × Nat)) :=
  if c = 0 then none else if c < 128 then some [] else if c < 194 then none else if c < 224 then some [(128, 191)]
  else if c = 224 then some [(160, 191), (128, 191)] else if c = 237 then some [(128, 159), (128, 191)] else if c < 240 then some [(128, 191), (128, 191)]
  else if c = 240 then some [(144, 191), (128, 191), (128, 191)] else if c < 244 then some [(128, 191), (128, 191), (128, 191)]
  else if c = 244 then some [(128, 143), (128, 191), (128, 191)] else none

def utf : List (Nat × Nat) → List UInt8 → Bool
  | [], [] => true
  | _ :: _, [] => false
  | [], c :: r => match need c.toNat with
    | none => false
    | some p => utf p r
  | b :: p, c :: r => decide (b.1 ≤ c.toNat) && decide (c.toNat ≤ b.2) && utf p r

theorem utf_nil (c : UInt8) (r : List UInt8) : utf [] (c :: r) = match need c.toNat with | none => false | some p => utf p r := by rw [utf]
theorem utf_cons (b : Nat × Nat) (p : List (Nat × Nat)) (c : UInt8) (r : List UInt8) : utf (b :: p) (c :: r) = (decide (b.1 ≤ c.toNat) && decide (c.toNat ≤ b.2) && utf p r) := by rw [utf]
theorem utf_short (b : Nat × Nat) (p : List (Nat × Nat)) : utf (b :: p) [] = false := by rw [utf]

theorem drop_get (s : ByteArray) (i : Nat) (h : i < s.size) : s.data.toList.drop i = s.get! i :: s.data.toList.drop (i + 1) := by
  have h' : i < s.data.toList.length := by simpa using h
  rw [List.drop_eq_getElem_cons h']
  congr 1
  have := get_toList s i h
  rw [List.getElem?_eq_getElem h'] at this
  exact Option.some.inj this

theorem drop_end (s : ByteArray) (i : Nat) (h : ¬ i < s.size) : s.data.toList.drop i = [] := by
  rw [List.drop_eq_nil_iff]; simpa using Nat.le_of_not_lt h

theorem utf_step (b : Nat × Nat) (p : List (Nat × Nat)) (s : ByteArray) (i : Nat) :
    utf (b :: p) (s.data.toList.drop i) = if i < s.size ∧ b.1 ≤ (s.get! i).toNat ∧ (s.get! i).toNat ≤ b.2 then utf p (s.data.toList.drop (i + 1)) else false := by
  by_cases h : i < s.size
  · rw [drop_get s i h, utf_cons]
    by_cases h1 : b.1 ≤ (s.get! i).toNat <;> by_cases h2 : (s.get! i).toNat ≤ b.2 <;> simp [h, h1, h2]
  · rw [drop_end s i h, utf_short, if_neg (by omega)]

/-- The decoding in numbers: of n bytes that are left, the first four. -/
def decN (n c0 c1 c2 c3 : Nat) : Nat × Nat :=
  if c0 < 128 then (c0, 1)
  else if c0 / 32 = 6 ∧ 1 < n ∧ c1 / 64 = 2 then (if c0 % 32 * 64 + c1 % 64 ≥ 128 then (c0 % 32 * 64 + c1 % 64, 2) else (65533, 1))
  else if (c0 / 16 = 14 ∧ 1 < n ∧ c1 / 64 = 2) ∧ 2 < n ∧ c2 / 64 = 2 then
    (if c0 % 16 * 4096 + c1 % 64 * 64 + c2 % 64 ≥ 2048 ∧ (c0 % 16 * 4096 + c1 % 64 * 64 + c2 % 64 < 55296 ∨ 57344 ≤ c0 % 16 * 4096 + c1 % 64 * 64 + c2 % 64 ∧ c0 % 16 * 4096 + c1 % 64 * 64 + c2 % 64 ≤ 1114111)
      then (c0 % 16 * 4096 + c1 % 64 * 64 + c2 % 64, 3) else (65533, 1))
  else if ((c0 / 8 = 30 ∧ 1 < n ∧ c1 / 64 = 2) ∧ 2 < n ∧ c2 / 64 = 2) ∧ 3 < n ∧ c3 / 64 = 2 then
    (if c0 % 8 * 262144 + c1 % 64 * 4096 + c2 % 64 * 64 + c3 % 64 ≥ 65536 ∧ (c0 % 8 * 262144 + c1 % 64 * 4096 + c2 % 64 * 64 + c3 % 64 < 55296 ∨ 57344 ≤ c0 % 8 * 262144 + c1 % 64 * 4096 + c2 % 64 * 64 + c3 % 64 ∧ c0 % 8 * 262144 + c1 % 64 * 4096 + c2 % 64 * 64 + c3 % 64 ≤ 1114111)
      then (c0 % 8 * 262144 + c1 % 64 * 4096 + c2 % 64 * 64 + c3 % 64, 4) else (65533, 1))
  else (65533, 1)

theorem valid_nat (c : Nat) : Utf8.valid (c : Int) = true ↔ (c < 55296 ∨ (57344 ≤ c ∧ c ≤ 1114111)) := by
  unfold Utf8.valid
  rw [Bool.or_eq_true, Bool.and_eq_true, Bool.and_eq_true, decide_eq_true_iff, decide_eq_true_iff, decide_eq_true_iff, decide_eq_true_iff]
  omega

theorem decode_eq (s : ByteArray) (pos : Nat) (h : pos < s.size) :
    Utf8.decode s pos = decN (s.size - pos) (s.get! pos).toNat (s.get! (pos + 1)).toNat (s.get! (pos + 2)).toNat (s.get! (pos + 3)).toNat := by
  have b0 := (s.get! pos).toNat_lt
  unfold Utf8.decode decN
  obtain ⟨n, hn⟩ : ∃ n, n = s.size - pos := ⟨_, rfl⟩
  rw [← hn]
  have e1 : (pos + 1 < s.size) = (1 < n) := by simp; omega
  have e2 : (pos + 2 < s.size) = (2 < n) := by simp; omega
  have e3 : (pos + 3 < s.size) = (3 < n) := by simp; omega
  clear hn
  simp only [Nat.add_zero, e1, e2, e3, valid_nat, Bool.and_eq_true, decide_eq_true_eq, beq_iff_eq, Utf8.runeError]

theorem decN_short (n c0 c1 c2 c3 : Nat) (h : decN n c0 c1 c2 c3 = (65533, 1)) : ((decN n c0 c1 c2 c3).1 = 0 ∨ ((decN n c0 c1 c2 c3).1 = 65533 ∧ (decN n c0 c1 c2 c3).2 = 1)) := by
  rw [h]; exact .inr ⟨rfl, rfl⟩

/-- One decoding: it is amiss just where the text is not well-formed there; else what is behind it decides. -/
theorem decode_utf (s : ByteArray) (pos : Nat) (h : pos < s.size) :
    (((Utf8.decode s pos).1 = 0 ∨ ((Utf8.decode s pos).1 = 65533 ∧ (Utf8.decode s pos).2 = 1)) ∧ utf [] (s.data.toList.drop pos) = false) ∨
    ((Utf8.decode s pos).1 ≠ 0 ∧ ¬ ((Utf8.decode s pos).1 = 65533 ∧ (Utf8.decode s pos).2 = 1) ∧ utf [] (s.data.toList.drop pos) = utf [] (s.data.toList.drop (pos + (Utf8.decode s pos).2))) := by
  rw [drop_get s pos h, utf_nil, decode_eq s pos h]
  have b0 := (s.get! pos).toNat_lt; have b1 := (s.get! (pos + 1)).toNat_lt; have b2 := (s.get! (pos + 2)).toNat_lt; have b3 := (s.get! (pos + 3)).toNat_lt
  have u1 := fun b p => utf_step b p s (pos + 1)
  have u2 := fun b p => utf_step b p s (pos + 2)
  have u3 := fun b p => utf_step b p s (pos + 3)
  obtain ⟨n, hn⟩ : ∃ n, n = s.size - pos := ⟨_, rfl⟩
  rw [← hn]
  have e1 : (pos + 1 < s.size) = (1 < n) := by simp; omega
  have e2 : (pos + 2 < s.size) = (2 < n) := by simp; omega
  have e3 : (pos + 3 < s.size) = (3 < n) := by simp; omega
  have hn0 : 0 < n := by omega
  simp only [e1] at u1
  simp only [e2, Nat.add_assoc, Nat.reduceAdd] at u2
  simp only [e3, Nat.add_assoc, Nat.reduceAdd] at u3
  simp only [Nat.add_assoc, Nat.reduceAdd] at u1
  clear e1 e2 e3 h hn
  generalize (s.get! pos).toNat = c0 at *
  generalize (s.get! (pos + 1)).toNat = c1 at *
  generalize (s.get! (pos + 2)).toNat = c2 at *
  generalize (s.get! (pos + 3)).toNat = c3 at *
  generalize s.data.toList = l at *
  by_cases z : c0 = 0
  · left; subst z; exact ⟨.inl (by simp [decN]), by simp [need]⟩
  by_cases r0 : c0 < 128
  · right
    have hd : decN n c0 c1 c2 c3 = (c0, 1) := by unfold decN; rw [if_pos r0]
    rw [hd]
    refine ⟨z, by dsimp only; omega, ?_⟩
    simp [need, z, r0]
  by_cases r1 : c0 < 194
  · left
    have hd : decN n c0 c1 c2 c3 = (65533, 1) := by unfold decN; rw [if_neg r0]; split; (rw [if_neg (by omega)]); rw [if_neg (by omega), if_neg (by omega)]
    refine ⟨decN_short _ _ _ _ _ hd, ?_⟩
    have : need c0 = none := by unfold need; rw [if_neg z, if_neg r0, if_pos r1]
    rw [this]
  by_cases r2 : c0 < 224
  · have hne : need c0 = some [(128, 191)] := by unfold need; rw [if_neg z, if_neg r0, if_neg r1, if_pos r2]
    rw [hne]; simp only [u1]
    by_cases g1 : 1 < n ∧ 128 ≤ c1 ∧ c1 ≤ 191
    · right
      have hd : decN n c0 c1 c2 c3 = ((c0 % 32) * 64 + c1 % 64, 2) := by unfold decN; rw [if_neg r0, if_pos (by omega), if_pos (by omega)]
      rw [hd, if_pos g1]
      exact ⟨by dsimp only; omega, by dsimp only; omega, rfl⟩
    · left
      have hd : decN n c0 c1 c2 c3 = (65533, 1) := by unfold decN; rw [if_neg r0, if_neg (by omega), if_neg (by omega), if_neg (by omega)]
      exact ⟨decN_short _ _ _ _ _ hd, by rw [if_neg g1]⟩
  by_cases r3 : c0 < 240
  · obtain ⟨lo, hi, hne, hlo⟩ : ∃ lo hi, need c0 = some [(lo, hi), (128, 191)] ∧ ((c0 = 224 ∧ lo = 160 ∧ hi = 191) ∨ (c0 = 237 ∧ lo = 128 ∧ hi = 159) ∨ (c0 ≠ 224 ∧ c0 ≠ 237 ∧ lo = 128 ∧ hi = 191)) := by
      by_cases q1 : c0 = 224
      · exact ⟨160, 191, by subst q1; rfl, .inl ⟨q1, rfl, rfl⟩⟩
      by_cases q2 : c0 = 237
      · exact ⟨128, 159, by subst q2; rfl, .inr (.inl ⟨q2, rfl, rfl⟩)⟩
      · exact ⟨128, 191, by unfold need; rw [if_neg z, if_neg r0, if_neg r1, if_neg r2, if_neg q1, if_neg q2, if_pos r3], .inr (.inr ⟨q1, q2, rfl, rfl⟩)⟩
    rw [hne]; simp only [u1, u2]
    by_cases g1 : (1 < n ∧ lo ≤ c1 ∧ c1 ≤ hi) ∧ 2 < n ∧ 128 ≤ c2 ∧ c2 ≤ 191
    · right
      have hd : decN n c0 c1 c2 c3 = ((c0 % 16) * 4096 + (c1 % 64) * 64 + c2 % 64, 3) := by unfold decN; rw [if_neg r0, if_neg (by omega), if_pos (by omega), if_pos (by omega)]
      rw [hd, if_pos g1.1, if_pos g1.2]
      exact ⟨by dsimp only; omega, by dsimp only; omega, rfl⟩
    · left
      have hd : decN n c0 c1 c2 c3 = (65533, 1) := by
        unfold decN; rw [if_neg r0, if_neg (by omega)]
        split
        · rw [if_neg (by omega)]
        · rw [if_neg (by omega)]
      refine ⟨decN_short _ _ _ _ _ hd, ?_⟩
      by_cases g2 : 1 < n ∧ lo ≤ c1 ∧ c1 ≤ hi
      · rw [if_pos g2, if_neg (fun g3 => g1 ⟨g2, g3⟩)]
      · rw [if_neg g2]
  by_cases r4 : c0 < 245
  · obtain ⟨lo, hi, hne, hlo⟩ : ∃ lo hi, need c0 = some [(lo, hi), (128, 191), (128, 191)] ∧ ((c0 = 240 ∧ lo = 144 ∧ hi = 191) ∨ (c0 = 244 ∧ lo = 128 ∧ hi = 143) ∨ (c0 ≠ 240 ∧ c0 ≠ 244 ∧ lo = 128 ∧ hi = 191)) := by
      by_cases q1 : c0 = 240
      · exact ⟨144, 191, by subst q1; rfl, .inl ⟨q1, rfl, rfl⟩⟩
      by_cases q2 : c0 = 244
      · exact ⟨128, 143, by subst q2; rfl, .inr (.inl ⟨q2, rfl, rfl⟩)⟩
      · exact ⟨128, 191, by unfold need; rw [if_neg z, if_neg r0, if_neg r1, if_neg r2, if_neg (by omega), if_neg (by omega), if_neg r3, if_neg q1, if_pos (by omega)], .inr (.inr ⟨q1, q2, rfl, rfl⟩)⟩
    rw [hne]; simp only [u1, u2, u3]
    by_cases g1 : (1 < n ∧ lo ≤ c1 ∧ c1 ≤ hi) ∧ (2 < n ∧ 128 ≤ c2 ∧ c2 ≤ 191) ∧ 3 < n ∧ 128 ≤ c3 ∧ c3 ≤ 191
    · right
      have hd : decN n c0 c1 c2 c3 = ((c0 % 8) * 262144 + (c1 % 64) * 4096 + (c2 % 64) * 64 + c3 % 64, 4) := by unfold decN; rw [if_neg r0, if_neg (by omega), if_neg (by omega), if_pos (by omega), if_pos (by omega)]
      rw [hd, if_pos g1.1, if_pos g1.2.1, if_pos g1.2.2]
      exact ⟨by dsimp only; omega, by dsimp only; omega, rfl⟩
    · left
      have hd : decN n c0 c1 c2 c3 = (65533, 1) := by
        unfold decN; rw [if_neg r0, if_neg (by omega), if_neg (by omega)]
        split
        · rw [if_neg (by omega)]
        · rfl
      refine ⟨decN_short _ _ _ _ _ hd, ?_⟩
      by_cases g2 : 1 < n ∧ lo ≤ c1 ∧ c1 ≤ hi
      · rw [if_pos g2]
        by_cases g3 : 2 < n ∧ 128 ≤ c2 ∧ c2 ≤ 191
        · rw [if_pos g3, if_neg (fun g4 => g1 ⟨g2, g3, g4⟩)]
        · rw [if_neg g3]
      · rw [if_neg g2]
  · left
    have hd : decN n c0 c1 c2 c3 = (65533, 1) := by
      unfold decN; rw [if_neg r0, if_neg (by omega), if_neg (by omega)]
      split
      · rw [if_neg (by omega)]
      · rfl
    refine ⟨decN_short _ _ _ _ _ hd, ?_⟩
    have : need c0 = none := by unfold need; rw [if_neg z, if_neg r0, if_neg r1, if_neg r2, if_neg (by omega), if_neg (by omega), if_neg r3, if_neg (by omega), if_neg (by omega), if_neg (by omega)]
    rw [this]

end Go.Proofs.Tp

/- A slice of texts in memory. No program in sight. -/
namespace Go.Proofs.Tp
open Go Go.RowKit

/-- The value reads, in this world, as this list of texts. -/
def StrsAt (w : World) (v : Value) (L : List ByteArray) : Prop :=
  ∃ a cap, v = .slice a L.length cap ∧ L.length ≤ cap ∧ cap ≤ maxLen ∧
    (L = [] ∨ ∃ b off, a = some ⟨b, off, none⟩ ∧ ∀ i x, L[i]? = some x → w.cell? ⟨b, off + i, none⟩ = some (.string x))

theorem StrsAt.nil (w : World) : StrsAt w (.slice none 0 0) [] := ⟨none, 0, rfl, Nat.le_refl _, Nat.zero_le _, .inl rfl⟩

theorem addr_add (g i : Nat) : (⟨g, 0, none⟩ : Addr).add i = ⟨g, 0 + i, none⟩ := by unfold Addr.add; split <;> simp_all

theorem StrsAt.of_owns {w : World} {B e : Nat} {v : Value} {L : List ByteArray} (h : w.ownsRow B e 1 v L.length (L.map Value.string)) : StrsAt w v L := by
  have hc := h
  rcases h.2 with ⟨rfl, h0⟩ | ⟨g, cap, cur, rfl, _, _, hn, hm, _, _⟩
  · have : L = [] := List.eq_nil_of_length_eq_zero h0
    subst this
    exact .nil w
  · refine ⟨_, cap, rfl, hn, hm, ?_⟩
    by_cases hL : L = []
    · exact .inl hL
    · refine .inr ⟨g, 0, rfl, fun i x hx => ?_⟩
      have := hc.cells (g := g) rfl i (.string x) (by rw [List.getElem?_map, hx]; rfl)
      rwa [addr_add] at this

theorem StrsAt.below {w w' : World} {v : Value} {L : List ByteArray} (h : StrsAt w v L) (hb : Below w.heap.size w w') : StrsAt w' v L := by
  obtain ⟨a, cap, rfl, h1, h2, h3⟩ := h
  refine ⟨a, cap, rfl, h1, h2, ?_⟩
  rcases h3 with h3 | ⟨b, off, rfl, hc⟩
  · exact .inl h3
  · refine .inr ⟨b, off, rfl, fun i x hx => ?_⟩
    have := hc i x hx
    rw [hb.cell (World.block_lt_of_cell? w _ this)]
    exact this

theorem StrsAt.open {w : World} {v : Value} {L : List ByteArray} (h : StrsAt w v L) (hL : 0 < L.length) :
    ∃ b off cap, v = .slice (some ⟨b, off, none⟩) L.length cap ∧ L.length ≤ cap ∧ cap ≤ 9223372036854775807 ∧ b < w.heap.size ∧
      ∀ i x, L[i]? = some x → w.cell? ⟨b, off + i, none⟩ = some (.string x) := by
  obtain ⟨a, cap, rfl, h1, h2, h3⟩ := h
  rcases h3 with rfl | ⟨b, off, rfl, hc⟩
  · simp at hL
  · refine ⟨b, off, cap, rfl, h1, h2, ?_, hc⟩
    have h0 := hc 0 L[0] (by simp [hL])
    exact World.block_lt_of_cell? w _ h0

theorem StrsAt.open_nil {w : World} {v : Value} (h : StrsAt w v []) : ∃ a cap, v = .slice a 0 cap := by
  obtain ⟨a, cap, rfl, _⟩ := h
  exact ⟨a, cap, rfl⟩

/-- The rest behind the first k. -/
theorem StrsAt.drop {w : World} {b off cap n : Nat} {L : List ByteArray} (k : Nat) (hk : k ≤ n) (hn : L.length = n) (hc : n ≤ cap) (hm : cap ≤ 9223372036854775807)
    (h : ∀ i x, L[i]? = some x → w.cell? ⟨b, off + i, none⟩ = some (.string x)) (a : Option Addr) (ha : k < n → a = some ⟨b, off + k, none⟩) :
    StrsAt w (.slice a (n - k) (cap - k)) (L.drop k) := by
  refine ⟨a, cap - k, by simp [hn], by simp; omega, by unfold maxLen; omega, ?_⟩
  by_cases hkn : k < n
  · refine .inr ⟨b, off + k, ha hkn, fun i x hx => ?_⟩
    rw [List.getElem?_drop] at hx
    rw [Nat.add_assoc]
    exact h _ x hx
  · exact .inl (List.drop_eq_nil_of_le (by omega))

end Go.Proofs.Tp

/- Plain: a slice that reads as a row of cells, k to an element; nil and empty ones too. No program in sight. -/
namespace Go.Proofs.Gs
open Go Go.RowKit

def RowAt (w : World) (k : Nat) (v : Value) (n : Nat) (xs : List Value) : Prop :=
  xs.length = n * k ∧ ∃ a cap, v = .slice a n cap ∧ n ≤ cap ∧ cap ≤ maxLen ∧ (n = 0 ∨ ∃ b off, a = some ⟨b, off, none⟩ ∧ b < w.heap.size ∧ ∀ j u, xs[j]? = some u → w.cell? ⟨b, off + j, none⟩ = some u)

theorem RowAt.nil (w : World) (k : Nat) : RowAt w k (.slice none 0 0) 0 [] := ⟨by simp, none, 0, rfl, Nat.le_refl _, Nat.zero_le _, .inl rfl⟩

theorem RowAt.below {w w' : World} {k n : Nat} {v : Value} {xs : List Value} (h : RowAt w k v n xs) (hb : Below w.heap.size w w') : RowAt w' k v n xs := by
  obtain ⟨h0, a, cap, h1, h2, h3, h4⟩ := h
  refine ⟨h0, a, cap, h1, h2, h3, ?_⟩
  rcases h4 with h4 | ⟨b, off, e, hb', hc⟩
  · exact .inl h4
  · exact .inr ⟨b, off, e, Nat.lt_of_lt_of_le hb' hb.size, fun j u hu => (hb.cell (show (⟨b, off + j, none⟩ : Addr).block < _ from hb')).trans (hc j u hu)⟩

theorem RowAt.of_owns {w : World} {B e k n : Nat} {v : Value} {xs : List Value} (h : w.ownsRow B e k v n xs) : RowAt w k v n xs := by
  refine ⟨h.1, ?_⟩
  rcases h.2 with ⟨rfl, rfl⟩ | ⟨g, cap, cur, rfl, _, hg, hn, hm, _, hx⟩
  · exact ⟨none, 0, rfl, Nat.le_refl _, Nat.zero_le _, .inl rfl⟩
  · refine ⟨_, cap, rfl, hn, hm, .inr ⟨g, 0, rfl, (Array.getElem?_eq_some_iff.1 hg).1, fun j u hu => ?_⟩⟩
    rw [Nat.zero_add]
    unfold World.cell?
    simp only [hg]
    rw [← hx, List.getElem?_take] at hu
    split at hu
    · simpa using hu
    · cases hu

theorem RowAt.of_strs {w : World} {v : Value} {L : List ByteArray} (h : Tp.StrsAt w v L) : RowAt w 1 v L.length (L.map Value.string) := by
  obtain ⟨a, cap, rfl, h1, h2, h3⟩ := h
  refine ⟨by simp, a, cap, rfl, h1, h2, ?_⟩
  rcases h3 with rfl | ⟨b, off, rfl, hc⟩
  · exact .inl rfl
  · by_cases h0 : L.length = 0
    · exact .inl h0
    · have hl : 0 < L.length := by omega
      refine .inr ⟨b, off, rfl, World.block_lt_of_cell? w _ (hc 0 L[0] (by simp [hl])), fun j u hu => ?_⟩
      rw [List.getElem?_map] at hu
      cases hx : L[j]? with
      | none => rw [hx] at hu; simp at hu
      | some x => rw [hx] at hu; simp at hu; subst hu; exact hc j x hx

theorem RowAt.strs {w : World} {v : Value} {L : List ByteArray} (h : RowAt w 1 v L.length (L.map Value.string)) : Tp.StrsAt w v L := by
  obtain ⟨_, a, cap, rfl, h1, h2, h3⟩ := h
  refine ⟨a, cap, rfl, h1, h2, ?_⟩
  rcases h3 with h3 | ⟨b, off, rfl, _, hc⟩
  · exact .inl (List.eq_nil_of_length_eq_zero h3)
  · exact .inr ⟨b, off, rfl, fun i x hx => hc i _ (by rw [List.getElem?_map, hx]; rfl)⟩

/-- Opened for a walk: nil, empty, or with an address. -/
theorem RowAt.cases {w : World} {k n : Nat} {v : Value} {xs : List Value} (h : RowAt w k v n xs) :
    (n = 0 ∧ xs = [] ∧ ∃ a cap, v = .slice a 0 cap ∧ cap ≤ 9223372036854775807) ∨
    (0 < n ∧ ∃ b off cap, v = .slice (some ⟨b, off, none⟩) n cap ∧ n ≤ cap ∧ cap ≤ 9223372036854775807 ∧ b < w.heap.size ∧ ∀ j u, xs[j]? = some u → w.cell? ⟨b, off + j, none⟩ = some u) := by
  obtain ⟨h0, a, cap, rfl, h1, h2, h3⟩ := h
  unfold maxLen at h2
  by_cases hn : n = 0
  · subst hn
    exact .inl ⟨rfl, List.eq_nil_of_length_eq_zero (by simpa using h0), a, cap, rfl, by omega⟩
  · rcases h3 with h3 | ⟨b, off, rfl, hb, hc⟩
    · exact absurd h3 hn
    · exact .inr ⟨by omega, b, off, cap, rfl, h1, by omega, hb, hc⟩
end Go.Proofs.Gs

/- Plain: rows all of whose cells lie in given blocks; messages as they are told. No program in sight. -/
namespace Go.Proofs.Rt
open Go Go.RowKit Go.Proofs.Gs

/-- A message as it is told: its payload's bytes as numbers. -/
structure MsgV where
  topic : ByteArray
  pay : List Int
  qos : Int
  ret : Bool

def payCells (l : List Int) : List Value := l.map (Value.int .u8)

/-- What is asked of a world that has turned elsewhere. -/
def Same (S : Nat → Prop) (w w' : World) : Prop := ∀ k, k < w.heap.size → S k → w'.heap[k]? = w.heap[k]?

theorem Same.below {S : Nat → Prop} {w w' : World} (h : Below w.heap.size w w') : Same S w w' := fun k hk _ => h.block k hk
theorem Same.cell {S : Nat → Prop} {w w' : World} (h : Same S w w') {b o : Nat} {u : Value} (hb : S b) (hc : w.cell? ⟨b, o, none⟩ = some u) : w'.cell? ⟨b, o, none⟩ = some u := by
  rw [← hc]
  exact World.cell?_of_block (w := w) (a := ⟨b, o, none⟩) (h b (World.block_lt_of_cell? w _ hc) hb)

/-- A row all of whose cells lie in blocks of F. -/
def RowF (F : Nat → Prop) (w : World) (k : Nat) (v : Value) (n : Nat) (xs : List Value) : Prop := RowAt w k v n xs ∧ ∀ b, v.ownBlock = some b → F b

theorem RowF.keep {F : Nat → Prop} {w w' : World} {k n : Nat} {v : Value} {xs : List Value} (h : RowF F w k v n xs) (hs : Same F w w') : RowF F w' k v n xs := by
  refine ⟨?_, h.2⟩
  obtain ⟨⟨h0, a, cap, h1, h2, h3, h4⟩, h5⟩ := h
  refine ⟨h0, a, cap, h1, h2, h3, ?_⟩
  rcases h4 with h4 | ⟨b, off, e, hb, hc⟩
  · exact .inl h4
  · by_cases hn : n = 0
    · exact .inl hn
    · have hF : F b := h5 b (by rw [h1, e]; rfl)
      refine .inr ⟨b, off, e, ?_, fun j u hu => hs.cell hF (hc j u hu)⟩
      have := hs b hb hF
      rcases Nat.lt_or_ge b w'.heap.size with hlt | hge
      · exact hlt
      · rw [Array.getElem?_eq_none hge, Array.getElem?_eq_getElem hb] at this; cases this

theorem RowF.mono {F F' : Nat → Prop} {w : World} {k n : Nat} {v : Value} {xs : List Value} (h : RowF F w k v n xs) (hF : ∀ b, F b → F' b) : RowF F' w k v n xs := ⟨h.1, fun b e => hF b (h.2 b e)⟩

theorem cell_below {w w' : World} (hb : Below w.heap.size w w') {b o : Nat} {u : Value} (h : w.cell? ⟨b, o, none⟩ = some u) : w'.cell? ⟨b, o, none⟩ = some u :=
  (hb.cell (World.block_lt_of_cell? w _ h)).trans h

/-- A slice of levels all of whose cells lie in blocks of F. -/
def StrsF (F : Nat → Prop) (w : World) (v : Value) (L : List ByteArray) : Prop := RowF F w 1 v L.length (L.map Value.string)
theorem StrsF.strs {F : Nat → Prop} {w : World} {v : Value} {L : List ByteArray} (h : StrsF F w v L) : Tp.StrsAt w v L := RowAt.strs h.1

end Go.Proofs.Rt

/- Plain: a session's window: numbers, what is under way, what waits. No program in sight. -/
namespace Go.Proofs.Sw
open Go Go.Proofs.Rt

/-- What is under way: its number, the message, and whether it is released. -/
structure Fl where
  id : Nat
  msg : MsgV
  rel : Bool
/-- A window. -/
structure Win where
  win : Nat
  que : Nat
  last : Nat
  fl : List Fl
  wt : List MsgV
  on : Bool
/-- A packet of a window: of kind 3 (with a message) or 6. -/
structure Pk where
  kind : Nat
  id : Nat
  dup : Bool
  msg : MsgV

def noMsg : MsgV := ⟨⟨#[]⟩, [], 0, false⟩
def nextId (l : Nat) : Nat := l % 65535 + 1
def has (fl : List Fl) (id : Nat) : Bool := fl.any fun f => decide (f.id = id)
/-- Where a number stands. -/
def spotF : List Fl → Nat → Nat
  | [], _ => 0
  | f :: fl, id => if f.id = id then 0 else spotF fl id + 1
theorem spotF_lt : ∀ {fl : List Fl} {id : Nat}, has fl id = true → spotF fl id < fl.length
  | [], id, h => by simp [has] at h
  | f :: fl, id, h => by
    rw [spotF]
    by_cases e : f.id = id
    · rw [if_pos e]; simp
    · rw [if_neg e, List.length_cons]
      have h2 : has fl id = true := by unfold has at h ⊢; simpa [e] using h
      have := spotF_lt h2
      omega
theorem spotF_ahead : ∀ {fl : List Fl} {id i : Nat} {f : Fl}, i < spotF fl id → fl[i]? = some f → f.id ≠ id
  | [], id, i, f, h, _ => by simp [spotF] at h
  | x :: fl, id, 0, f, h, h2 => by
    injection h2 with h2
    subst h2
    rw [spotF] at h
    split at h
    · omega
    · assumption
  | x :: fl, id, i + 1, f, h, h2 => by
    rw [spotF] at h
    split at h
    · omega
    · exact spotF_ahead (fl := fl) (by omega) h2
theorem spotF_at : ∀ {fl : List Fl} {id : Nat} {f : Fl}, fl[spotF fl id]? = some f → f.id = id
  | [], id, f, h => by simp at h
  | x :: fl, id, f, h => by
    rw [spotF] at h
    split at h
    · injection h with h; subst h; assumption
    · exact spotF_at (fl := fl) h
theorem spotF_end : ∀ {fl : List Fl} {id : Nat}, has fl id = false → spotF fl id = fl.length
  | [], _, _ => rfl
  | f :: fl, id, h => by
    unfold has at h
    rw [List.any_cons, Bool.or_eq_false_iff] at h
    rw [spotF, if_neg (by simpa using h.1), spotF_end (fl := fl) (by unfold has; exact h.2), List.length_cons]

/-- The number that is given next. -/
def numb (fl : List Fl) : Nat → Nat → Nat
  | 0, l => l
  | n + 1, l => if has fl (nextId l) = true then numb fl n (nextId l) else nextId l
theorem nextId_range (l : Nat) : 1 ≤ nextId l ∧ nextId l ≤ 65535 := by unfold nextId; have := Nat.mod_lt l (show 0 < 65535 by omega); omega
theorem numb_range (fl : List Fl) : ∀ (n l : Nat), l ≤ 65535 → numb fl n l ≤ 65535
  | 0, l, h => h
  | n + 1, l, h => by
    rw [numb]
    split
    · exact numb_range fl n _ (nextId_range l).2
    · exact (nextId_range l).2

/-- What a thing under way is sent as. -/
def pub (again : Bool) (f : Fl) : Pk := if f.rel = true then ⟨6, f.id, false, noMsg⟩ else ⟨3, f.id, again, f.msg⟩
def launchN (W : Win) : Nat := numb W.fl 65535 W.last
def launchW (W : Win) (m : MsgV) : Win := { W with last := launchN W, fl := W.fl ++ [⟨launchN W, m, false⟩] }
def launchP (W : Win) (m : MsgV) : Pk := ⟨3, launchN W, false, m⟩
/-- What waits goes out while there is room. -/
def fillN : Nat → Win → Win × List Pk
  | 0, W => (W, [])
  | n + 1, W => match W.wt with
    | [] => (W, [])
    | m :: wt => if W.on = true ∧ W.fl.length < W.win then
        let r := fillN n (launchW { W with wt := wt } m)
        (r.1, launchP { W with wt := wt } m :: r.2)
      else (W, [])
def fillW (W : Win) : Win × List Pk := fillN W.wt.length W
theorem fill_none {W : Win} (h : W.wt = []) : fillW W = (W, []) := by unfold fillW; rw [h]; rfl
def sendable (m : MsgV) : Bool := decide (m.qos = 1) || decide (m.qos = 2)
/-- Up. -/
def upW (W : Win) : Win × List Pk :=
  let W1 := { W with on := true }
  ((fillW W1).1, W1.fl.map (pub true) ++ (fillW W1).2)
/-- Send, of a message above quality 0. -/
def sendW (W : Win) (m : MsgV) : Win × List Pk × Bool :=
  if W.on = true ∧ W.fl.length < W.win then (launchW W m, [launchP W m], true)
  else if W.wt.length < W.que then ({ W with wt := W.wt ++ [m] }, [], true)
  else (W, [], false)
/-- Ack. -/
def qualF (f : Fl) : Int := if f.rel = true then 2 else f.msg.qos
def ackW (W : Win) (kind : Int) (id : Nat) : Win × List Pk :=
  match W.fl[spotF W.fl id]? with
  | none => (W, [])
  | some f =>
    if W.on = false then (W, [])
    else if (kind = 4 ∧ f.rel = false ∧ f.msg.qos = 1) ∨ (kind = 7 ∧ f.rel = true) then fillW { W with fl := W.fl.eraseIdx (spotF W.fl id) }
    else if kind = 5 ∧ (f.rel = true ∨ f.msg.qos = 2) then ({ W with fl := W.fl.set (spotF W.fl id) ⟨id, noMsg, true⟩ }, [⟨6, id, false, noMsg⟩])
    else (W, [])
end Go.Proofs.Sw

/- Plain: a row that grows by append, its elements of k cells each, whatever lies behind them. No program in sight. -/
namespace Go.Proofs.Gs
open Go Go.RowKit Go.Proofs.Rt

/-- What is asked of an element's reading. -/
structure Elt {α : Type} (k : Nat) (El : (Nat → Prop) → World → List Value → α → Prop) : Prop where
  len : ∀ {F w cs a}, El F w cs a → cs.length = k
  one : ∀ {F w cs a}, El F w cs a → ∀ u ∈ cs, u.oneCell' = true
  keep : ∀ {F w w' cs a}, El F w cs a → Same F w w' → El F w' cs a
  mono : ∀ {F F' w cs a}, El F w cs a → (∀ b, F b → F' b) → El F' w cs a

section
variable {α : Type} {k : Nat} {El : (Nat → Prop) → World → List Value → α → Prop}

/-- Elements that lie behind one another, read. -/
structure Els (El : (Nat → Prop) → World → List Value → α → Prop) (F : Nat → Prop) (w : World) (css : List (List Value)) (xs : List α) : Prop where
  len : css.length = xs.length
  el : ∀ (i : Nat) (cs : List Value) (a : α), css[i]? = some cs → xs[i]? = some a → El F w cs a

theorem Els.nil {F : Nat → Prop} {w : World} : Els El F w [] [] := ⟨rfl, fun i cs a h _ => by simp at h⟩
theorem Els.keep (K : Elt k El) {F : Nat → Prop} {w w' : World} {css : List (List Value)} {xs : List α} (h : Els El F w css xs) (hs : Same F w w') : Els El F w' css xs := ⟨h.len, fun i cs a h1 h2 => K.keep (h.el i cs a h1 h2) hs⟩
theorem Els.mono (K : Elt k El) {F F' : Nat → Prop} {w : World} {css : List (List Value)} {xs : List α} (h : Els El F w css xs) (hs : ∀ b, F b → F' b) : Els El F' w css xs := ⟨h.len, fun i cs a h1 h2 => K.mono (h.el i cs a h1 h2) hs⟩
theorem Els.app {F : Nat → Prop} {w : World} {css css2 : List (List Value)} {xs xs2 : List α} (h : Els El F w css xs) (h2 : Els El F w css2 xs2) : Els El F w (css ++ css2) (xs ++ xs2) := by
  refine ⟨by rw [List.length_append, List.length_append, h.len, h2.len], fun i cs a g1 g2 => ?_⟩
  by_cases hi : i < css.length
  · rw [List.getElem?_append_left hi] at g1
    rw [List.getElem?_append_left (by rw [← h.len]; exact hi)] at g2
    exact h.el i cs a g1 g2
  · rw [List.getElem?_append_right (by omega)] at g1
    rw [List.getElem?_append_right (by rw [← h.len]; omega), ← h.len] at g2
    exact h2.el _ cs a g1 g2
theorem Els.one {F : Nat → Prop} {w : World} {cs : List Value} {a : α} (h : El F w cs a) : Els El F w [cs] [a] := by
  refine ⟨rfl, fun i cs' a' g1 g2 => ?_⟩
  cases i with
  | zero => injection g1 with g1; injection g2 with g2; subst g1; subst g2; exact h
  | succ i => simp at g1
theorem Els.cells (K : Elt k El) {F : Nat → Prop} {w : World} : ∀ {css : List (List Value)} {xs : List α}, Els El F w css xs → css.flatten.length = xs.length * k ∧ ∀ u ∈ css.flatten, u.oneCell' = true
  | [], [], _ => ⟨by simp, by simp⟩
  | [], a :: xs, h => by have := h.len; simp at this
  | cs :: css, [], h => by have := h.len; simp at this
  | cs :: css, a :: xs, h => by
    have h0 := h.el 0 cs a rfl rfl
    have hr : Els El F w css xs := ⟨by have := h.len; simpa using this, fun i c x g1 g2 => h.el (i + 1) c x (by simpa using g1) (by simpa using g2)⟩
    obtain ⟨e1, e2⟩ := Els.cells K hr
    refine ⟨?_, fun u hu => ?_⟩
    · rw [List.flatten_cons, List.length_append, e1, K.len h0, List.length_cons, Nat.add_mul, Nat.one_mul, Nat.add_comm]
    · rw [List.flatten_cons, List.mem_append] at hu
      rcases hu with hu | hu
      · exact K.one h0 u hu
      · exact e2 u hu

theorem Els.uncons {F : Nat → Prop} {w : World} {css : List (List Value)} {a : α} {xs : List α} (h : Els El F w css (a :: xs)) : ∃ cs rest, css = cs :: rest ∧ El F w cs a ∧ Els El F w rest xs := by
  cases css with
  | nil => have := h.len; simp at this
  | cons cs rest => exact ⟨cs, rest, rfl, h.el 0 cs a rfl rfl, by have := h.len; simpa using this, fun i c x g1 g2 => h.el (i + 1) c x (by simpa using g1) (by simpa using g2)⟩
theorem Els.cons {F : Nat → Prop} {w : World} {cs : List Value} {css : List (List Value)} {a : α} {xs : List α} (h : El F w cs a) (h2 : Els El F w css xs) : Els El F w (cs :: css) (a :: xs) := (Els.one h).app h2
theorem Els.part {F : Nat → Prop} {w : World} {css : List (List Value)} {xs : List α} (h : Els El F w css xs) (i m : Nat) : Els El F w ((css.drop i).take m) ((xs.drop i).take m) := by
  refine ⟨by rw [List.length_take, List.length_take, List.length_drop, List.length_drop, h.len], fun j cs a g1 g2 => ?_⟩
  by_cases hj : j < m
  · rw [List.getElem?_take_of_lt hj, List.getElem?_drop] at g1 g2
    exact h.el _ cs a g1 g2
  · rw [List.getElem?_eq_none (by rw [List.length_take]; omega)] at g1
    cases g1
theorem flat_get : ∀ {css : List (List Value)} {i o : Nat} {cs : List Value} {u : Value}, (∀ c ∈ css, c.length = k) → css[i]? = some cs → cs[o]? = some u → css.flatten[i * k + o]? = some u
  | [], i, o, cs, u, _, h, _ => by simp at h
  | c :: css, 0, o, cs, u, hk, h, h2 => by
    injection h with h
    subst h
    rw [Nat.zero_mul, Nat.zero_add, List.flatten_cons, List.getElem?_append_left (List.getElem?_eq_some_iff.1 h2).1]
    exact h2
  | c :: css, i + 1, o, cs, u, hk, h, h2 => by
    have hc := hk c (by simp)
    rw [List.flatten_cons, Nat.add_mul, Nat.one_mul, List.getElem?_append_right (by omega), hc, show i * k + k + o - k = i * k + o by omega]
    exact flat_get (fun x hx => hk x (by simp [hx])) (by simpa using h) h2
theorem Els.all (K : Elt k El) {F : Nat → Prop} {w : World} {css : List (List Value)} {xs : List α} (h : Els El F w css xs) : ∀ c ∈ css, c.length = k := by
  intro c hc
  obtain ⟨i, hi⟩ := List.mem_iff_getElem?.1 hc
  have hl := (List.getElem?_eq_some_iff.1 hi).1
  obtain ⟨a, ha⟩ : ∃ a, xs[i]? = some a := ⟨_, List.getElem?_eq_getElem (by rw [← h.len]; exact hl)⟩
  exact K.len (h.el i c a hi ha)

/-- A row that is read. -/
def Reads (k : Nat) (El : (Nat → Prop) → World → List Value → α → Prop) (F : Nat → Prop) (w : World) (v : Value) (xs : List α) : Prop :=
  ∃ css, Els El F w css xs ∧ RowAt w k v xs.length css.flatten

/-- A row of the call's own that grows; what lies behind its elements lies in F, out of the row. -/
structure Gro (Z : Nat) (E : TypeId) (k : Nat) (El : (Nat → Prop) → World → List Value → α → Prop) (F : Nat → Prop) (w : World) (v : Value) (xs : List α) : Prop where
  own : ∃ css, Els El F w css xs ∧ w.ownsRow Z E k v xs.length css.flatten
  out : ∀ b, F b → b < w.heap.size ∧ some b ≠ v.ownBlock

theorem Gro.nil (Z : Nat) (E : TypeId) (F : Nat → Prop) (w : World) (hF : ∀ b, F b → b < w.heap.size) : Gro Z E k El F w (.slice none 0 0) [] :=
  ⟨⟨[], Els.nil, World.ownsRow_nil _ _ _ _⟩, fun b h => ⟨hF b h, by simp [Value.ownBlock]⟩⟩

theorem Gro.slice {Z : Nat} {E : TypeId} {F : Nat → Prop} {w : World} {v : Value} {xs : List α} (h : Gro Z E k El F w v xs) : ∃ a cap, v = .slice a xs.length cap := by
  obtain ⟨css, _, h2⟩ := h.own
  obtain ⟨_, a, cap, e, _⟩ := RowAt.of_owns h2
  exact ⟨a, cap, e⟩
theorem Gro.bound {Z : Nat} {E : TypeId} {F : Nat → Prop} {w : World} {v : Value} {xs : List α} (h : Gro Z E k El F w v xs) {b : Nat} (hb : v.ownBlock = some b) : Z ≤ b ∧ b < w.heap.size := by
  obtain ⟨css, _, h2⟩ := h.own
  rcases h2.2 with ⟨rfl, _⟩ | ⟨g, cap, cur, rfl, h1, h3, _⟩
  · simp [Value.ownBlock] at hb
  · simp [Value.ownBlock] at hb
    subst hb
    exact ⟨h1, (Array.getElem?_eq_some_iff.1 h3).1⟩
theorem Gro.keep (K : Elt k El) {Z : Nat} {E : TypeId} {F : Nat → Prop} {w w' : World} {v : Value} {xs : List α} (h : Gro Z E k El F w v xs) (hs : ∀ b, b < w.heap.size → (F b ∨ some b = v.ownBlock) → w'.heap[b]? = w.heap[b]?) (hsz : w.heap.size ≤ w'.heap.size) : Gro Z E k El F w' v xs := by
  obtain ⟨css, h1, h2, h3⟩ := h.own
  refine ⟨⟨css, h1.keep K (fun b hb hF => hs b hb (.inl hF)), h2, ?_⟩, fun b hF => ⟨by have := (h.out b hF).1; omega, (h.out b hF).2⟩⟩
  rcases h3 with h3 | ⟨g, cap, cur, e, q1, q2, q3⟩
  · exact .inl h3
  · exact .inr ⟨g, cap, cur, e, q1, (hs g (Array.getElem?_eq_some_iff.1 q2).1 (.inr (by rw [e]; rfl))).trans q2, q3⟩
theorem Gro.below (K : Elt k El) {Z : Nat} {E : TypeId} {F : Nat → Prop} {w w' : World} {v : Value} {xs : List α} (h : Gro Z E k El F w v xs) (hb : Below w.heap.size w w') : Gro Z E k El F w' v xs :=
  h.keep K (fun b hlt _ => hb.block b hlt) hb.size
theorem Gro.mono (K : Elt k El) {Z : Nat} {E : TypeId} {F F' : Nat → Prop} {w : World} {v : Value} {xs : List α} (h : Gro Z E k El F w v xs) (hF : ∀ b, F b → F' b) (ho : ∀ b, F' b → b < w.heap.size ∧ some b ≠ v.ownBlock) : Gro Z E k El F' w v xs := by
  obtain ⟨css, h1, h2⟩ := h.own
  exact ⟨⟨css, h1.mono K hF, h2⟩, ho⟩
theorem Gro.reads (K : Elt k El) {Z : Nat} {E : TypeId} {F F' : Nat → Prop} {w : World} {v : Value} {xs : List α} (h : Gro Z E k El F w v xs) (hF : ∀ b, F b → F' b) : Reads k El F' w v xs := by
  obtain ⟨css, h1, h2⟩ := h.own
  exact ⟨css, h1.mono K hF, RowAt.of_owns h2⟩

theorem Reads.slice {F : Nat → Prop} {w : World} {v : Value} {xs : List α} (h : Reads k El F w v xs) : ∃ a cap, v = .slice a xs.length cap ∧ xs.length ≤ cap ∧ cap ≤ 9223372036854775807 := by
  obtain ⟨_, _, _, a, cap, e, h1, h2, _⟩ := h
  exact ⟨a, cap, e, h1, h2⟩
theorem Reads.keep (K : Elt k El) {F : Nat → Prop} {w w' : World} {v : Value} {xs : List α} (h : Reads k El F w v xs) (hs : Same (fun b => F b ∨ v.ownBlock = some b) w w') : Reads k El F w' v xs := by
  obtain ⟨css, h1, h2⟩ := h
  have h3 := RowF.keep (F := fun b => v.ownBlock = some b) ⟨h2, fun b e => e⟩ (w' := w') (fun b hb e => hs b hb (.inr e))
  exact ⟨css, h1.keep K (fun b hb e => hs b hb (.inl e)), h3.1⟩
theorem Reads.below (K : Elt k El) {F : Nat → Prop} {w w' : World} {v : Value} {xs : List α} (h : Reads k El F w v xs) (hb : Below w.heap.size w w') : Reads k El F w' v xs := h.keep K (fun b hlt _ => hb.block b hlt)
theorem Reads.mono (K : Elt k El) {F F' : Nat → Prop} {w : World} {v : Value} {xs : List α} (h : Reads k El F w v xs) (hF : ∀ b, F b → F' b) : Reads k El F' w v xs := by
  obtain ⟨css, h1, h2⟩ := h
  exact ⟨css, h1.mono K hF, h2⟩
theorem reads_empty {F : Nat → Prop} {w : World} {a : Option Addr} {c : Nat} (hc : c ≤ 9223372036854775807) : Reads k El F w (.slice a 0 c) [] := ⟨[], Els.nil, by simp, a, c, rfl, Nat.zero_le _, hc, .inl rfl⟩

/-- An element of a row. -/
theorem Reads.one (K : Elt k El) {F : Nat → Prop} {w : World} {b off n cap : Nat} {xs : List α} (h : Reads k El F w (.slice (some ⟨b, off, none⟩) n cap) xs) {i : Nat} {a : α} (ha : xs[i]? = some a) :
    ∃ cs, El F w cs a ∧ ∀ o u, cs[o]? = some u → w.cell? ⟨b, off + (i * k + o), none⟩ = some u := by
  obtain ⟨css, h1, h2⟩ := h
  have hi := (List.getElem?_eq_some_iff.1 ha).1
  obtain ⟨cs, hcs⟩ : ∃ cs, css[i]? = some cs := ⟨_, List.getElem?_eq_getElem (by rw [h1.len]; exact hi)⟩
  rcases RowAt.cases h2 with ⟨h0, _⟩ | ⟨_, b', off', cap', e, _, _, _, hc⟩
  · omega
  · injection e with e1 e2 e3
    injection e1 with e1
    injection e1 with e1 e4
    subst e1; subst e4
    exact ⟨cs, h1.el i cs a hcs ha, fun o u ho => hc _ u (flat_get (h1.all K) hcs ho)⟩

/-- A part of a row. -/
theorem Reads.part (K : Elt k El) (hk : 0 < k) {F : Nat → Prop} {w : World} {b off n cap : Nat} {xs : List α} (h : Reads k El F w (.slice (some ⟨b, off, none⟩) n cap) xs) {i m : Nat} (hm : i + m ≤ xs.length) :
    Reads k El F w (.slice (some ⟨b, off + i * k, none⟩) m (cap - i)) ((xs.drop i).take m) := by
  obtain ⟨css, h1, h2⟩ := h
  have hl : ((xs.drop i).take m).length = m := by rw [List.length_take, List.length_drop]; omega
  have hp := h1.part i m
  have hfl := (Els.cells K hp).1
  obtain ⟨_, a', c', e', hcap, hmax, _⟩ := id h2
  injection e' with e1 e2 e3
  subst e3
  refine ⟨_, hp, hfl, _, cap - i, by rw [hl], by omega, by omega, ?_⟩
  rw [hl] at hfl ⊢
  rcases RowAt.cases h2 with ⟨h0, _⟩ | ⟨_, b', off', cap', e, _, _, q3, hc⟩
  · exact .inl (by omega)
  · injection e with e1 e2 e3
    injection e1 with e1
    injection e1 with e1 e4
    subst e1; subst e4
    refine .inr ⟨b, _, rfl, q3, fun j u hu => ?_⟩
    have hj := (List.getElem?_eq_some_iff.1 hu).1
    rw [hfl] at hj
    have hdm : j / k * k + j % k = j := by rw [Nat.mul_comm]; exact Nat.div_add_mod j k
    have ho : j % k < k := Nat.mod_lt _ hk
    have hpm : j / k < m := by rw [Nat.div_lt_iff_lt_mul hk]; exact hj
    obtain ⟨p, hpe⟩ : ∃ p, j / k = p := ⟨_, rfl⟩
    obtain ⟨o, hoe⟩ : ∃ o, j % k = o := ⟨_, rfl⟩
    rw [hpe, hoe] at hdm
    rw [hoe] at ho
    rw [hpe] at hpm
    subst hdm
    obtain ⟨cs, hcs⟩ : ∃ cs, css[i + p]? = some cs := ⟨_, List.getElem?_eq_getElem (by rw [h1.len]; omega)⟩
    have hcl := h1.all K cs (List.mem_of_getElem? hcs)
    obtain ⟨u', hu'⟩ : ∃ u', cs[o]? = some u' := ⟨_, List.getElem?_eq_getElem (by omega)⟩
    have h3 := flat_get (hp.all K) (show ((css.drop i).take m)[p]? = some cs by rw [List.getElem?_take_of_lt hpm, List.getElem?_drop]; exact hcs) hu'
    rw [hu] at h3
    injection h3 with h3
    subst h3
    have h4 := hc _ u (flat_get (h1.all K) hcs hu')
    rw [show off + i * k + (p * k + o) = off + ((i + p) * k + o) by rw [Nat.add_mul]; omega]
    exact h4

/-- A part of a row, cut. -/
theorem Reads.cut (K : Elt k El) (hk : 0 < k) {F : Nat → Prop} {w : World} {a : Option Addr} {n cap : Nat} {xs : List α} (h : Reads k El F w (.slice a n cap) xs) {i m : Nat} (hm : i + m ≤ xs.length) :
    Reads k El F w (.slice (if cap = i then a else a.map (·.add (i * k))) m (cap - i)) ((xs.drop i).take m) := by
  obtain ⟨css, h1, h2⟩ := id h
  obtain ⟨_, a', c', e', hcap, hmax, hrow⟩ := id h2
  injection e' with e1 e2 e3
  subst e1; subst e2; subst e3
  unfold maxLen at hmax
  by_cases hm0 : m = 0
  · subst hm0
    rw [List.take_zero]
    exact reads_empty (by omega)
  · rcases hrow with h0 | ⟨b, off, rfl, _, _⟩
    · omega
    · rw [if_neg (by omega), Option.map_some, Addr.add_lit]
      exact h.part K hk hm
theorem cut_block {a : Option Addr} {i x n c n' c' : Nat} : (Value.slice (if c = i then a else a.map (·.add x)) n' c').ownBlock = (Value.slice a n c).ownBlock := by
  cases a with
  | none => split <;> rfl
  | some a => split <;> simp [Value.ownBlock, Addr.add]; split <;> rfl

/-- A new row of one. -/
theorem reads_one (K : Elt k El) {F : Nat → Prop} {w : World} {cs : List Value} {a : α} (h : El F w cs a) (hF : ∀ b, F b → b < w.heap.size) (E : TypeId) : Reads k El F (w.alloc (.cells cs.toArray E)) (.slice (some ⟨w.heap.size, 0, none⟩) 1 1) [a] := by
  have hk := K.len h
  refine ⟨[cs], Els.one (K.keep h (fun b hb _ => Below.heap_alloc w _ b hb)), by simp [hk], _, 1, rfl, Nat.le_refl _, by unfold maxLen; omega, .inr ⟨w.heap.size, 0, rfl, by simp, fun j u hu => ?_⟩⟩
  have hh := (MapKept.heap_alloc w (.cells cs.toArray E)).1
  unfold World.cell?
  simp only
  rw [hh, Nat.zero_add]
  simpa using hu

/-- append, of a row that is read. -/
theorem gro_app (K : Elt k El) {P : Program} {w : World} {Z : Nat} {E t : TypeId} {F G : Nat → Prop} {v v2 : Value} {xs bs : List α} (i : TypeInfo) (z : Value) (bytes : Nat) (ht : P.underlying t = some (.slice E)) (hi : P.info? E = some i) (hz : i.zero = some z) (hsize : i.size = k) (hby : i.bytes = bytes) (hzs : z.cells.size = k) (hk : 0 < k)
    (h : Gro Z E k El F w v xs) (h2 : Reads k El G w v2 bs) (hG : ∀ b, G b → b < w.heap.size ∧ some b ≠ v.ownBlock) (h63 : xs.length + bs.length ≤ maxLen) (hbytes : (xs.length + bs.length) * bytes ≤ 140737488355328) (hZ : Z ≤ w.heap.size) :
    ∃ v' w', (∀ ty, (Builtin.append_ #[t, t] ty #[v, v2]).run P w = .ok v' w') ∧ Gro Z E k El (fun b => F b ∨ G b) w' v' (xs ++ bs) ∧ w.grownBy w' v.ownBlock ∧ (v'.ownBlock = v.ownBlock ∨ v'.ownBlock = some w.heap.size) := by
  obtain ⟨css, e1, o1⟩ := h.own
  obtain ⟨css2, e2, r2⟩ := h2
  obtain ⟨c1, c2⟩ := Els.cells K e2
  have fin : ∀ (v' : Value) (w' : World), w'.ownsRow Z E k v' (xs.length + bs.length) (css.flatten ++ css2.flatten) → w.grownBy w' v.ownBlock → (v'.ownBlock = v.ownBlock ∨ v'.ownBlock = some w.heap.size) → Gro Z E k El (fun b => F b ∨ G b) w' v' (xs ++ bs) := fun v' w' q1 q2 q3 => by
    have hsame : Same (fun b => F b ∨ G b) w w' := fun b hb hF => q2.block b hb (by rcases hF with hF | hF; exact (h.out b hF).2; exact (hG b hF).2)
    refine ⟨⟨css ++ css2, ((e1.mono K (fun b hb => .inl hb)).app (e2.mono K (fun b hb => .inr hb))).keep K hsame, by rw [List.flatten_append, List.length_append]; exact q1⟩, fun b hb => ?_⟩
    have hlt : b < w.heap.size ∧ some b ≠ v.ownBlock := by rcases hb with hb | hb; exact h.out b hb; exact hG b hb
    refine ⟨Nat.lt_of_lt_of_le hlt.1 q2.size, fun e => ?_⟩
    rcases q3 with q3 | q3
    · exact hlt.2 (e.trans q3)
    · have := e.trans q3
      injection this with this
      omega
  rcases RowAt.cases r2 with ⟨h0, hx, a, c, rfl, _⟩ | ⟨hpos, b, off, cap, rfl, q1, q2, q3, hc⟩
  · have hbs : bs = [] := List.eq_nil_of_length_eq_zero h0
    subst hbs
    have hcss : css2 = [] := List.eq_nil_of_length_eq_zero (by have := e2.len; simpa using this)
    subst hcss
    refine ⟨v, w, fun ty => ?_, by have := fin v w (by simpa using o1) ⟨rfl, rfl, rfl, Nat.le_refl _, fun _ _ _ => rfl⟩ (.inl rfl); exact this, ⟨rfl, rfl, rfl, Nat.le_refl _, fun _ _ _ => rfl⟩, .inl rfl⟩
    have hf : (Builtin.firstCells i.size 0 (.slice a 0 c)).run P w = .ok (#[] : Array Value) w := by
      cases a with
      | none => exact run_firstCells_none w i.size 0 0 c
      | some a => exact run_firstCells_some w i.size 0 a 0 c [] (by simp) (by simp)
    rcases o1.2 with ⟨rfl, _⟩ | ⟨g, cap, cur, rfl, _, hg, hnc, _⟩
    · simp [Builtin.append_, run_underlying ht, sizeOf, typeInfo, zeroValue, hi, hz, Builtin.lenOf, hf]
    · have hs : Src P i.size t (.slice a 0 c) 0 [] w := by
        refine ⟨.inl ⟨E, ht⟩, fun _ => rfl, by simpa using hf, ?_, by simp, by simp⟩
        cases a with
        | none => exact run_firstCells_none w.drew i.size 0 0 c
        | some a => exact run_firstCells_some w.drew i.size 0 a 0 c [] (by simp) (by simp)
      have hr := run_append_room_src (P := P) w t t ty E i ht hi g 0 xs.length cap (.slice a 0 c) 0 [] hs (by omega) (by simp) (by simp)
      simpa [World.setCells] using hr
  · have hnews : ∀ (j : Nat) (u : Value), css2.flatten[j]? = some u → w.cell? ((⟨b, off, none⟩ : Addr).add j) = some u := fun j u hu => by
      rw [Addr.add_lit]
      exact hc j u hu
    have hrun := fun ty => run_append_own_at (P := P) w Z t ty E i z k bytes ht hi hz hsize hby hzs hk v xs.length css.flatten o1 ⟨b, off, none⟩ bs.length cap css2.flatten c1 hnews c2 h63 hbytes hZ
    obtain ⟨v', w', hr0, p1, p2, _, p4⟩ := hrun t
    refine ⟨v', w', fun ty => ?_, fin v' w' p1 p2 p4, p2, p4⟩
    exact hr0

/-- What lies out of a row that grows: what was there, and what is new. -/
def Out (X : Nat → Prop) (Z : Nat) (w : World) (v : Value) : Nat → Prop := fun b => X b ∨ (Z ≤ b ∧ b < w.heap.size ∧ some b ≠ v.ownBlock)

theorem Gro.start (K : Elt k El) {Z : Nat} {E : TypeId} {X : Nat → Prop} {w : World} (hX : ∀ b, X b → b < w.heap.size) : Gro Z E k El (Out X Z w (.slice none 0 0)) w (.slice none 0 0) [] :=
  Gro.nil Z E _ w (fun b hb => by rcases hb with hb | hb; exact hX b hb; exact hb.2.1)
theorem out_apart {Z : Nat} {E : TypeId} {F X : Nat → Prop} {w : World} {v : Value} {xs : List α} (h : Gro Z E k El F w v xs) (hX : ∀ b, X b → b < Z) (hZ : Z ≤ w.heap.size) : ∀ b, Out X Z w v b → b < w.heap.size ∧ some b ≠ v.ownBlock := by
  rintro b (hb | ⟨_, h2, h3⟩)
  · have := hX b hb
    exact ⟨by omega, fun e => by have := (h.bound e.symm).1; omega⟩
  · exact ⟨h2, h3⟩
theorem Gro.move (K : Elt k El) {Z : Nat} {E : TypeId} {X : Nat → Prop} {w w' : World} {v : Value} {xs : List α} (h : Gro Z E k El (Out X Z w v) w v xs) (hX : ∀ b, X b → b < Z) (hZ : Z ≤ w.heap.size) (hb : Below w.heap.size w w') : Gro Z E k El (Out X Z w' v) w' v xs := by
  have h2 := h.below K hb
  have hs := hb.size
  exact h2.mono K (fun b hb' => by rcases hb' with hb' | hb'; exact .inl hb'; exact .inr ⟨hb'.1, by omega, hb'.2.2⟩) (out_apart h2 hX (by omega))
/-- What a call has made lies out of the row. -/
theorem fresh_out {Z : Nat} {E : TypeId} {F X : Nat → Prop} {w w' : World} {v : Value} {xs : List α} (h : Gro Z E k El F w v xs) (hZ : Z ≤ w.heap.size) : ∀ b, (w.heap.size ≤ b ∧ b < w'.heap.size) → Out X Z w' v b :=
  fun b hb => .inr ⟨by omega, hb.2, fun e => by have := (h.bound e.symm).2; omega⟩

theorem gro_many (K : Elt k El) {P : Program} {w : World} {Z : Nat} {E t : TypeId} {X : Nat → Prop} {v v2 : Value} {xs bs : List α} (i : TypeInfo) (z : Value) (bytes : Nat) (ht : P.underlying t = some (.slice E)) (hi : P.info? E = some i) (hz : i.zero = some z) (hsize : i.size = k) (hby : i.bytes = bytes) (hzs : z.cells.size = k) (hk : 0 < k)
    (hX : ∀ b, X b → b < Z) (hZ : Z ≤ w.heap.size) (h : Gro Z E k El (Out X Z w v) w v xs) (h2 : Reads k El (Out X Z w v) w v2 bs) (h63 : xs.length + bs.length ≤ maxLen) (hbytes : (xs.length + bs.length) * bytes ≤ 140737488355328) :
    ∃ v' w', (∀ ty, (Builtin.append_ #[t, t] ty #[v, v2]).run P w = .ok v' w') ∧ Gro Z E k El (Out X Z w' v') w' v' (xs ++ bs) ∧ Below Z w w' := by
  have ho := out_apart h hX hZ
  obtain ⟨v', w', h1, h3, h4, h5⟩ := gro_app K i z bytes ht hi hz hsize hby hzs hk h h2 ho h63 hbytes hZ
  have hs := h4.size
  refine ⟨v', w', h1, h3.mono K (fun b hb => ?_) (out_apart h3 hX (by omega)), (Below.refl Z w).grown h4 hZ (fun b e => (h.bound e).1)⟩
  have hb' : Out X Z w v b := by rcases hb with hb | hb <;> exact hb
  rcases hb' with hb' | hb'
  · exact .inl hb'
  · refine .inr ⟨hb'.1, by omega, fun e => ?_⟩
    rcases h5 with h5 | h5
    · exact hb'.2.2 (e.trans h5)
    · have := e.trans h5
      injection this with this
      omega
theorem gro_one (K : Elt k El) {P : Program} {w w3 : World} {Z : Nat} {E t : TypeId} {X : Nat → Prop} {v : Value} {xs : List α} {a : α} {cs : List Value} (i : TypeInfo) (z : Value) (bytes : Nat) (ht : P.underlying t = some (.slice E)) (hi : P.info? E = some i) (hz : i.zero = some z) (hsize : i.size = k) (hby : i.bytes = bytes) (hzs : z.cells.size = k) (hk : 0 < k)
    (hX : ∀ b, X b → b < Z) (hZ : Z ≤ w.heap.size) (h : Gro Z E k El (Out X Z w v) w v xs) (hb : Below w.heap.size w w3) (hel : El (Out X Z w3 v) w3 cs a) (h63 : xs.length + 1 ≤ maxLen) (hbytes : (xs.length + 1) * bytes ≤ 140737488355328) :
    ∃ v' w', (∀ ty, (Builtin.append_ #[t, t] ty #[v, .slice (some ⟨w3.heap.size, 0, none⟩) 1 1]).run P (w3.alloc (.cells cs.toArray E)) = .ok v' w') ∧ Gro Z E k El (Out X Z w' v') w' v' (xs ++ [a]) ∧ Below Z w w' ∧ w3.heap.size < w'.heap.size := by
  have hs := hb.size
  have hb4 : Below w.heap.size w (w3.alloc (.cells cs.toArray E)) := hb.alloc hs _
  have h4 := h.move K hX hZ hb4
  have hs4 : (w3.alloc (.cells cs.toArray E)).heap.size = w3.heap.size + 1 := by simp
  have ho := out_apart (h.move K hX hZ hb) hX (by omega)
  have hr := reads_one K hel (fun b hb => (ho b hb).1) E
  have hr2 : Reads k El (Out X Z (w3.alloc (.cells cs.toArray E)) v) (w3.alloc (.cells cs.toArray E)) (.slice (some ⟨w3.heap.size, 0, none⟩) 1 1) [a] := hr.mono K (fun b hb => by rcases hb with hb | hb; exact .inl hb; exact .inr ⟨hb.1, by omega, hb.2.2⟩)
  obtain ⟨v', w', q1, q2, q3⟩ := gro_many K i z bytes ht hi hz hsize hby hzs hk hX (by omega) h4 hr2 (by simpa using h63) (by simpa using hbytes)
  exact ⟨v', w', q1, q2, (hb4.mono hZ).trans q3, by have := q3.size; omega⟩

/-! ### Rows of texts -/
def ElStr (_F : Nat → Prop) (_w : World) (cs : List Value) (s : ByteArray) : Prop := cs = [.string s]
theorem eltStr : Elt 1 ElStr where
  len := by rintro F w cs a rfl; rfl
  one := by rintro F w cs a rfl u hu; simp at hu; subst hu; rfl
  keep := by rintro F w w' cs a rfl _; rfl
  mono := by rintro F F' w cs a rfl _; rfl
theorem els_strs {F : Nat → Prop} {w : World} : ∀ {L : List ByteArray} {css : List (List Value)}, Els ElStr F w css L → css.flatten = L.map Value.string
  | [], css, h => by have := h.len; rw [List.eq_nil_of_length_eq_zero (l := css) (by simpa using this)]; rfl
  | s :: L, css, h => by
    obtain ⟨cs, rest, rfl, rfl, hr⟩ := h.uncons
    rw [List.flatten_cons, els_strs hr]
    rfl
theorem strs_els {F : Nat → Prop} {w : World} : ∀ {L : List ByteArray}, ∃ css, Els ElStr F w css L ∧ css.flatten = L.map Value.string
  | [] => ⟨[], Els.nil, rfl⟩
  | s :: L => by
    obtain ⟨css, e1, e2⟩ := strs_els (F := F) (w := w) (L := L)
    exact ⟨[.string s] :: css, Els.cons rfl e1, by rw [List.flatten_cons, e2]; rfl⟩
theorem strs_reads {F G : Nat → Prop} {w : World} {v : Value} {L : List ByteArray} (h : StrsF F w v L) : Reads 1 ElStr G w v L := by
  obtain ⟨css, e1, e2⟩ := strs_els (F := G) (w := w) (L := L)
  exact ⟨css, e1, by rw [e2]; exact h.1⟩
theorem reads_strs {F G : Nat → Prop} {w : World} {v : Value} {L : List ByteArray} (h : Reads 1 ElStr G w v L) (hF : ∀ b, v.ownBlock = some b → F b) : StrsF F w v L := by
  obtain ⟨css, e1, e2⟩ := h
  exact ⟨by rw [← els_strs e1]; exact e2, hF⟩
end
end Go.Proofs.Gs

/- Plain: a row of the call's own, its elements of k cells each: what a copy into it makes; cells laid over a part. No program in sight. -/
namespace Go.Proofs.Gs
open Go Go.RowKit

theorem gs_copy {P : Program} (w : World) (dT sT ty elem : TypeId) (k : Nat) (hu : P.underlying dT = some (.slice elem)) (hk : (P.info? elem).map (·.size) = some k) (g off dLen dCap : Nat) (sp : Addr) (sLen sCap : Nat) (cur : Array Value) (t : TypeId) (cs : List Value)
    (hg : w.heap[g]? = some (.cells cur t (0, 0))) (hn : cs.length = Nat.min sLen dLen * k) (hsrc : ∀ j v, cs[j]? = some v → w.cell? (sp.add j) = some v) (hfit : off + cs.length ≤ cur.size) (h1 : ∀ v ∈ cs, v.oneCell' = true) :
    (Builtin.copy_ #[dT, sT] ty #[.slice (some ⟨g, off, none⟩) dLen dCap, .slice (some sp) sLen sCap]).run P w = .ok (goInt (Nat.min sLen dLen)) (w.setRow g (splice cur.toList off cs).toArray) := by
  have hl := run_loadCells_list (P := P) w sp cs hsrc
  have hst := run_storeCells_at (P := P) g off t cs 0 cur w hg (by simpa using hfit) h1
  cases hq : P.info? elem with
  | none => simp [hq] at hk
  | some i =>
    have hi : i.size = k := by simpa [hq] using hk
    rw [hn] at hl
    have e : splice cur.toList off cs = cur.toList.take (off + 0) ++ cs ++ cur.toList.drop (off + 0 + cs.length) := by simp [splice]
    rw [e]
    simp only [Builtin.copy_, Sem.run_bind, run_underlying hu, Result.andThen_ok, sizeOf, typeInfo, List.getElem?_toArray, List.getElem?_cons_zero, List.getElem?_cons_succ]
    simp [Builtin.lenOf, Builtin.firstCells, hq, hi, hl, hst]

/-- A whole row set anew is owned. -/
theorem owns_setRow {w : World} {B e k g cap m : Nat} {cur : Array Value} {xs : List Value} (hg : w.heap[g]? = some (.cells cur e (0, 0))) (hB : B ≤ g) (hc : cap ≤ maxLen) (cs : List Value) (hs : cs.length = cap * k) (hm : m ≤ cap) (hx : cs.take (m * k) = xs) :
    (w.setRow g cs.toArray).ownsRow B e k (.slice (some ⟨g, 0, none⟩) m cap) m xs := by
  refine ⟨by rw [← hx, List.length_take, hs]; exact Nat.min_eq_left (Nat.mul_le_mul_right k hm), .inr ⟨g, cap, cs.toArray, rfl, hB, setRow_heap w g cur cs.toArray e (0, 0) hg, hm, hc, by simpa using hs, by simpa using hx⟩⟩

theorem grown_setRow (w : World) (g : Nat) (cs : Array Value) : w.grownBy (w.setRow g cs) (some g) :=
  ⟨rfl, rfl, rfl, by simp [World.setRow], fun k _ hne => setRow_other w g k cs (fun e => hne (by rw [e]))⟩
theorem gs_shift {cur xs new : List Value} {a k N : Nat} (hx : cur.take N = xs) (ha : a ≤ N) (hk : new.length = k) (hN : N + k ≤ cur.length) :
    (splice (splice cur (a + k) (xs.drop a)) a new).take (N + k) = xs.take a ++ new ++ xs.drop a ∧ (splice (splice cur (a + k) (xs.drop a)) a new).length = cur.length := by
  have hxl : xs.length = N := by rw [← hx, List.length_take]; omega
  have hdl : (xs.drop a).length = N - a := by rw [List.length_drop, hxl]
  have e1 : splice cur (a + k) (xs.drop a) = cur.take (a + k) ++ (xs.drop a ++ cur.drop (N + k)) := by
    unfold splice; rw [hdl, show a + k + (N - a) = N + k by omega]
  have l1 : (cur.take (a + k)).length = a + k := by rw [List.length_take]; omega
  have e2 : splice (splice cur (a + k) (xs.drop a)) a new = xs.take a ++ (new ++ (xs.drop a ++ cur.drop (N + k))) := by
    rw [e1]
    unfold splice
    rw [hk, List.take_append_of_le_length (by omega), List.take_take, Nat.min_eq_left (by omega)]
    congr 1
    · rw [← hx, List.take_take, Nat.min_eq_left ha]
    · congr 1
      rw [List.drop_append_of_le_length (by omega), List.drop_of_length_le (by omega), List.nil_append]
  have l2 : (xs.take a).length = a := by rw [List.length_take]; omega
  refine ⟨?_, ?_⟩
  · rw [e2, ← List.append_assoc, ← List.append_assoc, List.take_append_of_le_length (by simp only [List.length_append, l2, hk, hdl]; omega), List.take_of_length_le (by simp only [List.length_append, l2, hk, hdl]; omega)]
  · rw [e2]; simp only [List.length_append, l2, hk, hdl, List.length_drop]; omega

theorem gs_setCells (P : Program) {w : World} {g o : Nat} {cur : Array Value} {t : TypeId} {vs : List Value} (hg : w.heap[g]? = some (.cells cur t (0, 0))) (hl : o + vs.length ≤ cur.size) (h1 : ∀ v ∈ vs, v.oneCell' = true) :
    w.setCells g o vs = w.setRow g (splice cur.toList o vs).toArray := by
  have hc : ∀ j, j < vs.length → (w.cell? ⟨g, o + 0 + j, none⟩).isSome = true := fun j hj => by
    unfold World.cell?
    simp only [hg]
    rw [Array.getElem?_eq_getElem (by omega)]
    rfl
  have e1 := run_storeCells_cells (P := P) g o vs 0 w hc (fun j _ => by simp [World.frozen?, hg]) h1
  have e2 := run_storeCells_at (P := P) g o t vs 0 cur w hg (by simpa using hl) h1
  rw [e1] at e2
  injection e2 with _ e2
  rw [Nat.add_zero] at e2
  rw [e2]
  unfold splice
  rw [List.append_assoc]

theorem gs_fresh {cur xs new : List Value} {a k N : Nat} (hl : N + k ≤ cur.length) (hx : cur.take a = xs.take a) (ha : a ≤ N) (hxl : xs.length = N) (hk : new.length = k) :
    (splice (splice cur a new) (a + k) (xs.drop a)).take (N + k) = xs.take a ++ new ++ xs.drop a ∧ (splice (splice cur a new) (a + k) (xs.drop a)).length = cur.length := by
  have hdl : (xs.drop a).length = N - a := by rw [List.length_drop, hxl]
  have l2 : (xs.take a).length = a := by rw [List.length_take]; omega
  have e1 : splice cur a new = (xs.take a ++ new) ++ cur.drop (a + k) := by unfold splice; rw [hx, hk, List.append_assoc]
  have l3 : (xs.take a ++ new).length = a + k := by rw [List.length_append, l2, hk]
  have e2 : splice (splice cur a new) (a + k) (xs.drop a) = (xs.take a ++ new ++ xs.drop a) ++ cur.drop (N + k) := by
    have d1 : (xs.take a ++ new).drop (a + k + (N - a)) = [] := List.drop_of_length_le (by rw [l3]; omega)
    have t1 : ((xs.take a ++ new) ++ cur.drop (a + k)).take (a + k) = xs.take a ++ new := List.take_left' l3
    rw [e1]
    unfold splice
    rw [hdl, t1, List.drop_append, d1, List.nil_append, List.drop_drop, l3, List.append_assoc (xs.take a ++ new)]
    congr 3
    omega
  have l4 : (xs.take a ++ new ++ xs.drop a).length = N + k := by rw [List.length_append, l3, hdl]; omega
  rw [e2]
  refine ⟨List.take_left' l4, ?_⟩
  rw [List.length_append, l4, List.length_drop]
  omega
end Go.Proofs.Gs

/- Plain: a row of the call's own that may begin in the midst of its block (behind s = s[1:]); append onto it. No program in sight. -/
namespace Go.Proofs.Gs
open Go Go.RowKit Go.Proofs.Rt

def OwnAt (w : World) (Z : Nat) (E : TypeId) (k : Nat) (v : Value) (n : Nat) (xs : List Value) : Prop :=
  xs.length = n * k ∧ ((v = .slice none 0 0 ∧ n = 0) ∨ ∃ g off cap cur, v = .slice (some ⟨g, off, none⟩) n cap ∧ Z ≤ g ∧ w.heap[g]? = some (.cells cur E (0, 0)) ∧ n ≤ cap ∧ cap ≤ maxLen ∧ off + cap * k ≤ cur.size ∧ (cur.toList.drop off).take (n * k) = xs)

theorem OwnAt.nil (w : World) (Z : Nat) (E : TypeId) (k : Nat) : OwnAt w Z E k (.slice none 0 0) 0 [] := ⟨by simp, .inl ⟨rfl, rfl⟩⟩
theorem OwnAt.of_owns {w : World} {Z k n : Nat} {E : TypeId} {v : Value} {xs : List Value} (h : w.ownsRow Z E k v n xs) : OwnAt w Z E k v n xs := by
  refine ⟨h.1, ?_⟩
  rcases h.2 with h2 | ⟨g, cap, cur, e, h1, h2, h3, h4, h5, h6⟩
  · exact .inl h2
  · exact .inr ⟨g, 0, cap, cur, e, h1, h2, h3, h4, by omega, by rw [List.drop_zero]; exact h6⟩
theorem OwnAt.row {w : World} {Z k n : Nat} {E : TypeId} {v : Value} {xs : List Value} (h : OwnAt w Z E k v n xs) : RowAt w k v n xs := by
  refine ⟨h.1, ?_⟩
  rcases h.2 with ⟨rfl, rfl⟩ | ⟨g, off, cap, cur, rfl, _, hg, hn, hm, _, hx⟩
  · exact ⟨none, 0, rfl, Nat.le_refl _, Nat.zero_le _, .inl rfl⟩
  · refine ⟨_, cap, rfl, hn, hm, .inr ⟨g, off, rfl, (Array.getElem?_eq_some_iff.1 hg).1, fun j u hu => ?_⟩⟩
    unfold World.cell?
    simp only [hg]
    rw [← hx, List.getElem?_take] at hu
    split at hu
    · rw [List.getElem?_drop] at hu
      simpa using hu
    · cases hu
theorem OwnAt.bound {w : World} {Z k n : Nat} {E : TypeId} {v : Value} {xs : List Value} (h : OwnAt w Z E k v n xs) {b : Nat} (hb : v.ownBlock = some b) : Z ≤ b ∧ b < w.heap.size := by
  rcases h.2 with ⟨rfl, _⟩ | ⟨g, off, cap, cur, rfl, h1, h3, _⟩
  · simp [Value.ownBlock] at hb
  · simp [Value.ownBlock] at hb
    subst hb
    exact ⟨h1, (Array.getElem?_eq_some_iff.1 h3).1⟩
theorem OwnAt.keep {w w' : World} {Z k n : Nat} {E : TypeId} {v : Value} {xs : List Value} (h : OwnAt w Z E k v n xs) (hs : ∀ b, v.ownBlock = some b → w'.heap[b]? = w.heap[b]?) : OwnAt w' Z E k v n xs := by
  refine ⟨h.1, ?_⟩
  rcases h.2 with h2 | ⟨g, off, cap, cur, e, h1, h3, h4⟩
  · exact .inl h2
  · exact .inr ⟨g, off, cap, cur, e, h1, (hs g (by rw [e]; rfl)).trans h3, h4⟩
/-- What is left behind the first ones. -/
theorem OwnAt.behind {w : World} {Z k n cap i : Nat} {E : TypeId} {a : Option Addr} {xs : List Value} (h : OwnAt w Z E k (.slice a n cap) n xs) (hi : i ≤ n) : OwnAt w Z E k (.slice (if cap = i then a else a.map (·.add (i * k))) (n - i) (cap - i)) (n - i) (xs.drop (i * k)) := by
  refine ⟨by rw [List.length_drop, h.1, Nat.sub_mul], ?_⟩
  rcases h.2 with ⟨e, h0⟩ | ⟨g, off, cap', cur, e, h1, h2, h3, h4, h5, h6⟩
  · injection e with e1 e2 e3
    subst e1; subst e3; subst h0
    obtain rfl : i = 0 := by omega
    exact .inl ⟨rfl, rfl⟩
  · injection e with e1 e2 e3
    subst e1; subst e3
    by_cases hc : cap = i
    · rw [if_pos hc]
      obtain rfl : i = n := by omega
      refine .inr ⟨g, off, _, cur, rfl, h1, h2, by omega, by omega, ?_, ?_⟩
      · have : (cap - i) * k ≤ cap * k := Nat.mul_le_mul_right _ (Nat.sub_le _ _)
        omega
      · rw [Nat.sub_self, Nat.zero_mul, List.take_zero, List.drop_of_length_le (by rw [h.1]; exact Nat.le_refl _)]
    · rw [if_neg hc, Option.map_some, Addr.add_lit]
      refine .inr ⟨g, off + i * k, _, cur, rfl, h1, h2, by omega, by omega, ?_, ?_⟩
      · rw [Nat.sub_mul]
        have : i * k ≤ cap * k := Nat.mul_le_mul_right _ (by omega)
        omega
      · rw [← h6, ← List.drop_drop, List.drop_take, Nat.sub_mul]

/-- append onto it. -/
theorem own_append {P : Program} {w : World} {Z k n m : Nat} {E t : TypeId} {v v2 : Value} {xs news : List Value} (i : TypeInfo) (z : Value) (bytes : Nat) (ht : P.underlying t = some (.slice E)) (hi : P.info? E = some i) (hz : i.zero = some z) (hsize : i.size = k) (hby : i.bytes = bytes) (hzs : z.cells.size = k)
    (h : OwnAt w Z E k v n xs) (h2 : RowAt w k v2 m news) (h1 : ∀ u ∈ news, u.oneCell' = true) (h63 : n + m ≤ maxLen) (hbytes : (n + m) * bytes ≤ 140737488355328) (hZ : Z ≤ w.heap.size) :
    ∃ v' w', (∀ ty, (Builtin.append_ #[t, t] ty #[v, v2]).run P w = .ok v' w') ∧ OwnAt w' Z E k v' (n + m) (xs ++ news) ∧ w.grownBy w' v.ownBlock ∧ (v'.ownBlock = v.ownBlock ∨ v'.ownBlock = some w.heap.size) := by
  subst hsize
  subst hby
  have hsmall : n + m ≤ 9223372036854775807 := by simp only [maxLen] at h63; omega
  have hlen : (xs ++ news).length = (n + m) * i.size := by rw [List.length_append, h.1, h2.1, Nat.add_mul]
  rcases RowAt.cases h2 with ⟨h0, hx, a, c, rfl, _⟩ | ⟨hpos, b, o2, c2, rfl, q1, q2, q3, hc⟩
  · subst h0; subst hx
    rw [List.append_nil]
    refine ⟨v, w, fun ty => ?_, h, ⟨rfl, rfl, rfl, Nat.le_refl _, fun _ _ _ => rfl⟩, .inl rfl⟩
    have hf : ∀ W : World, (Builtin.firstCells i.size 0 (.slice a 0 c)).run P W = .ok (#[] : Array Value) W := fun W => by
      cases a with
      | none => exact run_firstCells_none W i.size 0 0 c
      | some a => exact run_firstCells_some W i.size 0 a 0 c [] (by simp) (by simp)
    rcases h.2 with ⟨rfl, _⟩ | ⟨g, off, cap, cur, rfl, _, hg, hnc, _⟩
    · simp [Builtin.append_, run_underlying ht, sizeOf, typeInfo, zeroValue, hi, hz, Builtin.lenOf, hf]
    · have hs : Src P i.size t (.slice a 0 c) 0 [] w := ⟨.inl ⟨E, ht⟩, fun _ => rfl, by simpa using hf w, by simpa using hf w.drew, by simp, by simp⟩
      have hr := run_append_room_src (P := P) w t t ty E i ht hi g off n cap (.slice a 0 c) 0 [] hs (by omega) (by simp) (by simp)
      simpa [World.setCells] using hr
  · have hnews : ∀ (j : Nat) (u : Value), news[j]? = some u → w.cell? ((⟨b, o2, none⟩ : Addr).add j) = some u := fun j u hu => by
      rw [Addr.add_lit]
      exact hc j u hu
    have hgrown : ∀ old, (∀ ty, (Builtin.append_ #[t, t] ty #[v, .slice (some ⟨b, o2, none⟩) m c2]).run P w = .ok (.slice (some ⟨w.heap.size, 0, none⟩) (n + m) (grownCap w (n + m) old E)) (w.drew.alloc (.cells (xs.toArray ++ news.toArray ++ Builtin.zeroCells z.cells (grownCap w (n + m) old E - (n + m))) E))) → old < n + m →
        ∃ v' w', (∀ ty, (Builtin.append_ #[t, t] ty #[v, .slice (some ⟨b, o2, none⟩) m c2]).run P w = .ok v' w') ∧ OwnAt w' Z E i.size v' (n + m) (xs ++ news) ∧ w.grownBy w' v.ownBlock ∧ (v'.ownBlock = v.ownBlock ∨ v'.ownBlock = some w.heap.size) := fun old hr ho => by
      have hge := grownCap_ge w (n + m) old E
      have hcm : grownCap w (n + m) old E ≤ maxLen := grownCap_le_maxLen w (n + m) old E h63
      refine ⟨_, _, hr, OwnAt.of_owns ⟨hlen, .inr ⟨w.heap.size, _, _, rfl, hZ, heap_alloc_new w.drew _, hge, hcm, ?_, ?_⟩⟩, ⟨rfl, rfl, rfl, by simp, fun k hk _ => Below.heap_alloc w.drew _ k hk⟩, .inr rfl⟩
      · simp only [Array.size_append, List.size_toArray, size_zeroCells, hzs, h.1, h2.1, ← Nat.add_mul]
        congr 1
        omega
      · simp only [Array.toList_append, List.append_assoc]
        rw [← List.append_assoc, ← hlen]
        exact List.take_left
    rcases h.2 with ⟨rfl, h0⟩ | ⟨g, off, cap, cur, rfl, hbg, hg, hnc, hcm, hcs, hx⟩
    · subst h0
      have hxs : xs = [] := List.eq_nil_of_length_eq_zero (by simpa using h.1)
      subst hxs
      refine hgrown 0 (fun ty => ?_) (by omega)
      have hr := run_append_nil (P := P) w t ty E i z ht hi hz ⟨b, o2, none⟩ m c2 news h2.1 hnews hpos (by omega) (by have hb := hbytes; simp only [Nat.zero_add] at hb; omega)
      simp only [Nat.zero_add, Array.empty_append]
      exact hr
    · by_cases hroom : n + m ≤ cap
      · have hfit : off + n * i.size + news.length ≤ cur.size := by
          rw [h2.1, Nat.add_assoc, ← Nat.add_mul]
          have : (n + m) * i.size ≤ cap * i.size := Nat.mul_le_mul_right _ hroom
          omega
        have hs : Src P i.size t (.slice (some ⟨b, o2, none⟩) m c2) m news w := Src.ofSlice w ht ⟨b, o2, none⟩ m c2 news h2.1 hnews h1
        have hcell : ∀ j, j < news.length → (w.cell? ⟨g, off + n * i.size + j, none⟩).isSome = true := fun j hj => by
          unfold World.cell?
          simp only [hg]
          rw [Array.getElem?_eq_getElem (by omega)]
          rfl
        have hr := fun ty => run_append_room_src (P := P) w t t ty E i ht hi g off n cap (.slice (some ⟨b, o2, none⟩) m c2) m news hs hroom hcell (fun j _ => by simp [World.frozen?, hg])
        rw [gs_setCells P hg hfit h1] at hr
        have hxl : cur.toList.length = cur.size := Array.length_toList
        have hsp := length_splice cur.toList (off + n * i.size) news (by rw [hxl]; exact hfit)
        refine ⟨_, _, hr, ⟨hlen, .inr ⟨g, off, cap, _, rfl, hbg, setRow_heap w g cur _ E _ hg, hroom, hcm, by simp only [List.size_toArray]; rw [hsp, hxl]; exact hcs, ?_⟩⟩, ⟨rfl, rfl, rfl, by simp [World.setRow], fun k _ hk => setRow_other w g k _ (fun e => hk (by simp [Value.ownBlock, e]))⟩, .inl rfl⟩
        have e1 : (splice cur.toList (off + n * i.size) news).drop off = (xs ++ news) ++ cur.toList.drop (off + n * i.size + news.length) := by
          unfold splice
          rw [List.drop_append_of_le_length (by rw [List.length_take]; omega), List.drop_take, Nat.add_sub_cancel_left, hx, List.append_assoc]
        simp only
        rw [e1, ← hlen]
        exact List.take_left
      · have holds : ∀ (j : Nat) (u : Value), xs[j]? = some u → w.cell? ((⟨g, off, none⟩ : Addr).add j) = some u := fun j u hu => by
          rw [Addr.add_lit]
          rcases RowAt.cases h.row with ⟨h0, hx0, _⟩ | ⟨_, b', o', c', e', _, _, _, hc'⟩
          · rw [hx0] at hu; simp at hu
          · injection e' with e1 e2 e3
            injection e1 with e1
            injection e1 with e1 e4
            subst e1; subst e4
            exact hc' j u hu
        exact hgrown cap (fun ty => run_append_grow (P := P) w t ty E i z ht hi hz ⟨g, off, none⟩ n cap xs h.1 holds ⟨b, o2, none⟩ m c2 news h2.1 hnews (by omega) (by omega) (growslice_fits (by omega) hbytes)) (by omega)
/-- append onto a row, with what the result's block is. -/
theorem owns_append {P : Program} {w : World} {B n : Nat} {E t : TypeId} {v : Value} {xs : List Value} (i : TypeInfo) (z : Value) (bytes : Nat) {size : Nat} (ht : P.underlying t = some (.slice E)) (hi : P.info? E = some i) (hz : i.zero = some z) (hsize : i.size = size) (hby : i.bytes = bytes) (hzs : z.cells.size = size) (hsz : 0 < size)
    (hown : w.ownsRow B E size v n xs) (a : Addr) (m c : Nat) (news : List Value) (hl : news.length = m * size) (hnews : ∀ j u, news[j]? = some u → w.cell? (a.add j) = some u) (h1 : ∀ u ∈ news, u.oneCell' = true) (h63 : n + m ≤ maxLen) (hbytes : (n + m) * bytes ≤ 140737488355328) (hbase : B ≤ w.heap.size) (hrow : RowAt w size (.slice (some a) m c) m news) :
    ∃ v' w', (∀ ty, (Builtin.append_ #[t, t] ty #[v, .slice (some a) m c]).run P w = .ok v' w') ∧ w'.ownsRow B E size v' (n + m) (xs ++ news) ∧ w.grownBy w' v.ownBlock ∧ (v'.ownBlock = v.ownBlock ∨ v'.ownBlock = some w.heap.size) := by
  obtain ⟨v1, w1, hr, _, hg, hv⟩ := own_append i z bytes ht hi hz hsize hby hzs (OwnAt.of_owns hown) hrow h1 h63 hbytes hbase
  obtain ⟨v2, w2, hr2, ho2, _⟩ := run_append_own (P := P) (w := w) B t 0 E i z size bytes ht hi hz hsize hby hzs hsz v n xs hown a m c news hl hnews h1 h63 hbytes hbase
  rw [hr 0] at hr2
  injection hr2 with e1 e2
  subst e1; subst e2
  exact ⟨v1, w1, hr, ho2, hg, hv⟩
end Go.Proofs.Gs

/- Plain: a ring of entries in memory; what a cut and a laying do to it. No program in sight. -/
namespace Go.Proofs.Cc
open Go Go.RowKit

/-- Block b is a row of cells, none of them frozen. -/
def Live (w : World) (b : Nat) : Prop := ∃ cs e, w.heap[b]? = some (.cells cs e (0, 0))

/-- a's next is b, b's last is a. -/
def link (w : World) (a b : Nat) : Prop := w.cell? ⟨a, 0, none⟩ = some (.pointer (some ⟨b, 0, none⟩)) ∧ w.cell? ⟨b, 1, none⟩ = some (.pointer (some ⟨a, 0, none⟩))

def Seg (w : World) : Nat → List Nat → Nat → Prop
  | a, [], z => link w a z
  | a, b :: r, z => link w a b ∧ Seg w b r z

theorem Live.frozen {w : World} {b : Nat} (h : Live w b) (o : Nat) (s : Option _) : w.frozen? ⟨b, o, s⟩ = false := by
  obtain ⟨cs, e, h⟩ := h
  simp [World.frozen?, h]

theorem Live.setCell {w : World} {b : Nat} (h : Live w b) (a : Addr) (v : Value) : Live (w.setCell a v) b := by
  obtain ⟨cs, e, h⟩ := h
  by_cases hb : a.block = b
  · refine ⟨if a.spot.isSome then cs else cs.setIfInBounds a.off v, e, ?_⟩
    simp only [World.setCell, Array.getElem?_modify, hb, ↓reduceIte, h, Option.map_some]
  · refine ⟨cs, e, ?_⟩
    simp only [World.setCell, Array.getElem?_modify]
    rw [if_neg hb, h]

/-- Setting a's next to b and b's last to a, where both cells are there. -/
def tie (w : World) (a b : Nat) : World := (w.setCell ⟨b, 1, none⟩ (.pointer (some ⟨a, 0, none⟩))).setCell ⟨a, 0, none⟩ (.pointer (some ⟨b, 0, none⟩))

theorem cell_set_other {w : World} {a b o p : Nat} {v : Value} (h : a ≠ b ∨ o ≠ p) : (w.setCell ⟨a, o, none⟩ v).cell? ⟨b, p, none⟩ = w.cell? ⟨b, p, none⟩ := by
  refine World.cell?_setCell_other _ _ _ _ ?_
  intro e
  injection e with e1 e2
  rcases h with h | h
  · exact h e1
  · exact h e2

theorem cell_set_same {w : World} {a o : Nat} {v u : Value} (h : w.cell? ⟨a, o, none⟩ = some u) : (w.setCell ⟨a, o, none⟩ v).cell? ⟨a, o, none⟩ = some v :=
  World.cell?_setCell_same _ _ _ h

theorem tie_link {w : World} {a b : Nat} {u v : Value} (h1 : w.cell? ⟨a, 0, none⟩ = some u) (h2 : w.cell? ⟨b, 1, none⟩ = some v) : link (tie w a b) a b := by
  unfold tie
  refine ⟨cell_set_same (by rw [cell_set_other (.inr (by decide))]; exact h1), ?_⟩
  rw [cell_set_other (.inr (by decide))]
  exact cell_set_same h2

theorem tie_other {w : World} {a b c p : Nat} (h : (c ≠ a ∨ p ≠ 0) ∧ (c ≠ b ∨ p ≠ 1)) : (tie w a b).cell? ⟨c, p, none⟩ = w.cell? ⟨c, p, none⟩ := by
  unfold tie
  rw [cell_set_other (by rcases h.1 with h | h; exact .inl (Ne.symm h); exact .inr (Ne.symm h)), cell_set_other (by rcases h.2 with h | h; exact .inl (Ne.symm h); exact .inr (Ne.symm h))]

theorem tie_link_other {w : World} {a b c d : Nat} (h : link w c d) (h1 : c ≠ a) (h2 : d ≠ b) : link (tie w a b) c d :=
  ⟨by rw [tie_other ⟨.inl h1, .inr (by decide)⟩]; exact h.1, by rw [tie_other ⟨.inr (by decide), .inl h2⟩]; exact h.2⟩

/-- A part of the ring in which a is no beginning and b no end. -/
theorem tie_seg {w : World} {a b : Nat} : ∀ (r : List Nat) (c z : Nat), Seg w c r z → a ∉ c :: r → b ∉ r ++ [z] → Seg (tie w a b) c r z
  | [], c, z, h, h1, h2 => tie_link_other h (fun e => h1 (by simp [e])) (fun e => h2 (by simp [e]))
  | d :: r, c, z, h, h1, h2 => ⟨tie_link_other h.1 (fun e => h1 (by simp [e])) (fun e => h2 (by simp [e])), tie_seg r d z h.2 (fun e => h1 (List.mem_cons_of_mem _ e)) (fun e => h2 (List.mem_cons_of_mem _ e))⟩

theorem seg_app {w : World} : ∀ (p : List Nat) (a e z : Nat) (q : List Nat), Seg w a (p ++ e :: q) z ↔ Seg w a p e ∧ Seg w e q z
  | [], a, e, z, q => Iff.rfl
  | b :: p, a, e, z, q => by
    show (link w a b ∧ Seg w b (p ++ e :: q) z) ↔ (link w a b ∧ Seg w b p e) ∧ Seg w e q z
    rw [seg_app p b e z q, and_assoc]

/-- The last of a part, told: its links but the last, and the last. -/
theorem seg_last {w : World} : ∀ (p : List Nat) (a e : Nat), Seg w a p e → link w ((a :: p).getLast (by simp)) e
  | [], a, e, h => h
  | b :: p, a, e, h => by
    rw [List.getLast_cons (by simp)]
    exact seg_last p b e h.2

theorem seg_first {w : World} (a z : Nat) (q : List Nat) (h : Seg w a q z) : link w a ((q ++ [z]).head (by simp)) := by
  cases q with
  | nil => exact h
  | cons b q => exact h.1

/-- The last link of a part is another one: the part but for its last link stays. -/
theorem seg_turn {w : World} {a' b' : Nat} : ∀ (p : List Nat) (c e : Nat), Seg w c p e → (c :: p).getLast (by simp) = a' → (c :: p).Nodup → b' ∉ p → link (tie w a' b') a' b' → Seg (tie w a' b') c p b'
  | [], c, e, _, hl, _, _, ht => by
    simp at hl; subst hl; exact ht
  | d :: p, c, e, h, hl, hn, hb, ht => by
    rw [List.getLast_cons (by simp)] at hl
    obtain ⟨n1, n2⟩ := List.nodup_cons.1 hn
    refine ⟨tie_link_other h.1 ?_ (fun e => hb (by simp [e])), seg_turn p d e h.2 hl n2 (fun e => hb (List.mem_cons_of_mem _ e)) ht⟩
    intro e'
    exact n1 (by rw [e', ← hl]; exact List.getLast_mem _)

/-- An entry is cut out. -/
theorem ring_cut {w : World} {h e : Nat} {p q : List Nat} (hr : Seg w h (p ++ e :: q) h) (hn : (h :: (p ++ e :: q)).Nodup) :
    Seg (tie w ((h :: p).getLast (by simp)) ((q ++ [h]).head (by simp))) h (p ++ q) h := by
  obtain ⟨s1, s2⟩ := (seg_app p h e h q).1 hr
  have l1 := seg_last p h e s1
  have l2 := seg_first e h q s2
  generalize ha : (h :: p).getLast (by simp) = a at l1
  generalize hb : (q ++ [h]).head (by simp) = b at l2
  have ht := tie_link l1.1 l2.2
  have hn1 := List.nodup_cons.1 hn
  have hn2 := List.nodup_append.1 hn1.2
  have hnp : (h :: p).Nodup := List.nodup_cons.2 ⟨fun x => hn1.1 (by simp [x]), hn2.1⟩
  have hin : a ∈ h :: p := by rw [← ha]; exact List.getLast_mem _
  cases q with
  | nil =>
    rw [List.append_nil]
    have hbh : b = h := by rw [← hb]; rfl
    subst hbh
    exact seg_turn p b e s1 ha hnp (fun x => hn1.1 (by simp [x])) ht
  | cons c q =>
    have hbc : b = c := by rw [← hb]; rfl
    subst hbc
    refine (seg_app p h b h q).2 ⟨?_, ?_⟩
    · exact seg_turn p h e s1 ha hnp (fun x => (hn2.2.2 b x b (by simp)) rfl) ht
    · have hq : b ∉ q ∧ q.Nodup := by
        have := (List.nodup_cons.1 hn2.2.1).2
        exact List.nodup_cons.1 this
      refine tie_seg q b h s2.2 ?_ ?_
      · intro x
        rcases List.mem_cons.1 hin with rfl | hin
        · exact hn1.1 (List.mem_append_right _ (List.mem_cons_of_mem _ x))
        · exact hn2.2.2 a hin a (List.mem_cons_of_mem _ x) rfl
      · intro x
        rcases List.mem_append.1 x with x | x
        · exact hq.1 x
        · simp at x; exact hn1.1 (by rw [← x]; simp)

end Go.Proofs.Cc

/- Plain: a cache in memory (its struct, its map, its ring of entries), who owns which blocks, what stays. No program in sight. -/
namespace Go.Proofs.Cc
open Go Go.RowKit

/-- Only blocks of S may have turned; new ones may have come. -/
structure Turn (S : Nat → Prop) (w w' : World) : Prop where
  os : w'.os = w.os
  tape : w'.tape = w.tape
  output : w'.output = w.output
  size : w.heap.size ≤ w'.heap.size
  block : ∀ k, k < w.heap.size → ¬ S k → w'.heap[k]? = w.heap[k]?

/-- .. and the new ones. -/
def Grow (S : Nat → Prop) (w : World) : Nat → Prop := fun x => S x ∨ w.heap.size ≤ x

theorem Turn.refl (S : Nat → Prop) (w : World) : Turn S w w := ⟨rfl, rfl, rfl, Nat.le_refl _, fun _ _ _ => rfl⟩

theorem Turn.trans {S : Nat → Prop} {a b c : World} (h : Turn S a b) (k : Turn (Grow S a) b c) : Turn S a c :=
  ⟨k.os.trans h.os, k.tape.trans h.tape, k.output.trans h.output, Nat.le_trans h.size k.size, fun i hi hs =>
    (k.block i (Nat.lt_of_lt_of_le hi h.size) (fun x => x.elim hs (fun x => Nat.lt_irrefl _ (Nat.lt_of_lt_of_le hi x)))).trans (h.block i hi hs)⟩

theorem Turn.mono {S T : Nat → Prop} {a b : World} (h : Turn S a b) (hs : ∀ x, S x → T x) : Turn T a b :=
  ⟨h.os, h.tape, h.output, h.size, fun i hi ht => h.block i hi (fun x => ht (hs i x))⟩

theorem Turn.trans' {S T : Nat → Prop} {a b c : World} (h : Turn S a b) (k : Turn T b c) (hs : ∀ x, T x → Grow S a x) : Turn S a c := h.trans (k.mono hs)

theorem Turn.alloc {S : Nat → Prop} {a w : World} (h : Turn S a w) (o : Obj) : Turn S a (w.alloc o) :=
  h.trans ⟨rfl, rfl, rfl, by simp, fun k hk _ => Below.heap_alloc _ _ _ hk⟩

theorem Turn.setCell {S : Nat → Prop} {a w : World} (h : Turn S a w) {p : Addr} (hp : Grow S a p.block) (u : Value) : Turn S a (w.setCell p u) :=
  h.trans ⟨rfl, rfl, rfl, by simp [World.setCell], fun k _ hk => Below.heap_setCell _ _ _ _ (fun e => hk (e ▸ hp))⟩

theorem Turn.drew {S : Nat → Prop} {a w : World} (h : Turn S a w) : Turn S a w.drew := ⟨h.os, h.tape, h.output, h.size, h.block⟩

theorem Turn.of_drew {S : Nat → Prop} {a w : World} (h : Turn S a.drew w) : Turn S a w := ⟨h.os, h.tape, h.output, h.size, h.block⟩

theorem Turn.grown {S : Nat → Prop} {a w w' : World} {row : Option Nat} (h : Turn S a w) (hg : w.grownBy w' row) (hr : ∀ k, row = some k → Grow S a k) : Turn S a w' :=
  h.trans ⟨hg.os, hg.tape, hg.output, hg.size, fun k hk hs => hg.block k hk (fun e => hs (hr k e.symm))⟩

theorem Turn.below {S : Nat → Prop} {w w' : World} (h : Turn S w w') {n : Nat} (hn : n ≤ w.heap.size) (hs : ∀ x, x < n → ¬ S x) : Below n w w' :=
  ⟨h.os, h.tape, h.output, h.size, fun k hk => h.block k (Nat.lt_of_lt_of_le hk hn) (hs k hk)⟩

theorem Turn.of_below {S : Nat → Prop} {w w' : World} (h : Below w.heap.size w w') : Turn S w w' := ⟨h.os, h.tape, h.output, h.size, fun k hk _ => h.block k hk⟩

/-- What is asked of a world that has turned elsewhere. -/
def Same (S : Nat → Prop) (w w' : World) : Prop := ∀ k, k < w.heap.size → S k → w'.heap[k]? = w.heap[k]?

theorem Turn.same {S T : Nat → Prop} {w w' : World} (h : Turn S w w') (hd : ∀ x, T x → ¬ S x) : Same T w w' := fun k hk ht => h.block k hk (hd k ht)
theorem Below.toSame {S : Nat → Prop} {w w' : World} (h : Below w.heap.size w w') : Same S w w' := fun k hk _ => h.block k hk

theorem Same.cell {S : Nat → Prop} {w w' : World} (h : Same S w w') {b o : Nat} {u : Value} (hb : S b) (hc : w.cell? ⟨b, o, none⟩ = some u) : w'.cell? ⟨b, o, none⟩ = some u := by
  rw [← hc]
  exact World.cell?_of_block (w := w) (a := ⟨b, o, none⟩) (h b (World.block_lt_of_cell? w _ hc) hb)

theorem Live.lt {w : World} {b : Nat} (h : Live w b) : b < w.heap.size := by
  obtain ⟨cs, e, h⟩ := h
  exact (Array.getElem?_eq_some_iff.1 h).1

theorem Same.live {S : Nat → Prop} {w w' : World} (h : Same S w w') {b : Nat} (hb : S b) (hl : Live w b) : Live w' b := by
  have := hl.lt
  obtain ⟨cs, e, hl⟩ := hl
  exact ⟨cs, e, (h b this hb).trans hl⟩

theorem Same.seg {S : Nat → Prop} {w w' : World} (h : Same S w w') : ∀ (r : List Nat) (a z : Nat), S a → S z → (∀ x ∈ r, S x) → Seg w a r z → Seg w' a r z
  | [], a, z, ha, hz, _, hs => ⟨h.cell ha hs.1, h.cell hz hs.2⟩
  | b :: r, a, z, ha, hz, hr, hs => ⟨⟨h.cell ha hs.1.1, h.cell (hr b (by simp)) hs.1.2⟩, Same.seg h r b z (hr b (by simp)) hz (fun x hx => hr x (by simp [hx])) hs.2⟩

def HasCells (w : World) (b o : Nat) (l : List Value) : Prop := ∀ i u, l[i]? = some u → w.cell? ⟨b, o + i, none⟩ = some u

theorem Same.cells {S : Nat → Prop} {w w' : World} (h : Same S w w') {b o : Nat} {l : List Value} (hb : S b) (hc : HasCells w b o l) : HasCells w' b o l := fun i u hi => h.cell hb (hc i u hi)

/-- How a type's values lie: as one value, as cells, as a key. -/
structure Kd (α : Type) where
  val : α → Value
  cells : α → List Value
  lit : α → Lit

structure Ent (K V : Type) where
  blk : Nat
  key : K
  val : V

/-- A pointer to a block, read as the block's number. -/
def ptrR : Value → Option (DataW Unit × List MemPlace)
  | .pointer (some ⟨b, 0, none⟩) => some (.lit (.int .i64 b), [])
  | .pointer none => some (.nil, [])
  | _ => none

theorem ptrR_inv {v : Value} {b : Int} {ps : List MemPlace} (h : ptrR v = some (.lit (.int .i64 b), ps)) : ∃ n : Nat, b = n ∧ v = .pointer (some ⟨n, 0, none⟩) := by
  unfold ptrR at h
  split at h
  · rename_i n
    injection h with h
    injection h with h _
    injection h with h
    injection h with _ h
    exact ⟨n, h.symm, rfl⟩
  · injection h with h
    injection h with h _
    cases h
  · cases h

section
variable {K V : Type} [DecidableEq K]

structure Core (P : Program) (kT : TypeId) (KK : Kd K) (VK : Kd V) (w : World) (c b h : Nat) (D : DataW Unit) (S : Nat → Prop) (most : Nat) (E : List (Ent K V)) : Prop where
  most : w.cell? ⟨c, 0, none⟩ = some (.int .i64 most)
  head : w.cell? ⟨c, 1, none⟩ = some (.pointer (some ⟨h, 0, none⟩))
  by' : w.cell? ⟨c, 2, none⟩ = some (.map (some b))
  liveC : Live w c
  own : w.ownsMap P kT ptrR b E.length D
  has : ∀ k, Maps.has D (KK.lit k) = decide (k ∈ E.map Ent.key)
  at' : ∀ e ∈ E, ∀ z, D.atKey (KK.lit e.key) z = .lit (.int .i64 e.blk)
  size : Maps.size D = E.length
  keys : (E.map Ent.key).Nodup
  ring : Seg w h (E.map Ent.blk) h
  nod : (c :: h :: E.map Ent.blk).Nodup
  live : ∀ x ∈ h :: E.map Ent.blk, Live w x
  ents : ∀ e ∈ E, HasCells w e.blk 2 (KK.cells e.key ++ VK.cells e.val)
  sub : S c ∧ S b ∧ ∀ x ∈ h :: E.map Ent.blk, S x

def CacheAt (P : Program) (kT : TypeId) (KK : Kd K) (VK : Kd V) (w : World) (c : Nat) (S : Nat → Prop) (most : Nat) (E : List (Ent K V)) : Prop :=
  ∃ b h D, Core P kT KK VK w c b h D S most E

variable {P : Program} {kT : TypeId} {KK : Kd K} {VK : Kd V} {w w' : World} {c b h most : Nat} {D : DataW Unit} {S : Nat → Prop} {E : List (Ent K V)}

theorem Core.frame (C : Core P kT KK VK w c b h D S most E) (hs : Same S w w') : Core P kT KK VK w' c b h D S most E where
  most := hs.cell C.sub.1 C.most
  head := hs.cell C.sub.1 C.head
  by' := hs.cell C.sub.1 C.by'
  liveC := hs.live C.sub.1 C.liveC
  own := by
    have hlt := C.own.lt
    obtain ⟨es, clock, hb, r⟩ := C.own
    exact ⟨es, clock, (hs b hlt C.sub.2.1).trans hb, r⟩
  has := C.has
  at' := C.at'
  size := C.size
  keys := C.keys
  ring := hs.seg _ _ _ (C.sub.2.2 h (by simp)) (C.sub.2.2 h (by simp)) (fun x hx => C.sub.2.2 x (by simp [hx])) C.ring
  nod := C.nod
  live := fun x hx => hs.live (C.sub.2.2 x hx) (C.live x hx)
  ents := fun e he => hs.cells (C.sub.2.2 e.blk (List.mem_cons_of_mem _ (List.mem_map_of_mem he))) (C.ents e he)
  sub := C.sub

theorem Core.wider {T : Nat → Prop} (C : Core P kT KK VK w c b h D S most E) (hs : ∀ x, S x → T x) : Core P kT KK VK w c b h D T most E :=
  { C with sub := ⟨hs _ C.sub.1, hs _ C.sub.2.1, fun x hx => hs _ (C.sub.2.2 x hx)⟩ }

theorem CacheAt.frame (C : CacheAt P kT KK VK w c S most E) (hs : Same S w w') : CacheAt P kT KK VK w' c S most E := by
  obtain ⟨b, h, D, C⟩ := C
  exact ⟨b, h, D, C.frame hs⟩

theorem CacheAt.wider {T : Nat → Prop} (C : CacheAt P kT KK VK w c S most E) (hs : ∀ x, S x → T x) : CacheAt P kT KK VK w c T most E := by
  obtain ⟨b, h, D, C⟩ := C
  exact ⟨b, h, D, C.wider hs⟩

theorem Core.drew (C : Core P kT KK VK w c b h D S most E) : Core P kT KK VK w.drew c b h D S most E := C.frame (fun _ _ _ => rfl)

theorem ownsMap_tight {R : Value → Option (DataW Unit × List MemPlace)} {n : Nat} (h : w.ownsMap P kT R b n D) : w.ownsMap P kT R b (Maps.size D) D := by
  obtain ⟨es, clock, hb, F, _, rfl⟩ := h
  refine ⟨es, clock, hb, F, ?_, rfl⟩
  simp [Maps.size, length_sorted]

end

end Go.Proofs.Cc

/- Plain: a window in memory (its struct, its rows), which blocks may turn, what is sent. No code walked. -/
namespace Go.Proofs.Ytppndkbicekkjaa
open Go Go.RowKit Go.Proofs.Gs Go.Proofs.Rt Go.Proofs.Sw
open Go.Proofs.Cc (Turn Grow)

/-! ### Elements -/
def flCells (f : Fl) (pv : Value) : List Value := [.int .i64 f.id, .string f.msg.topic, pv, .int .i64 f.msg.qos, .bool f.msg.ret, .bool f.rel]
def ElFl (F : Nat → Prop) (w : World) (cs : List Value) (f : Fl) : Prop := ∃ pv, cs = flCells f pv ∧ RowF F w 1 pv f.msg.pay.length (payCells f.msg.pay)
def mgCells (m : MsgV) (pv : Value) : List Value := [.string m.topic, pv, .int .i64 m.qos, .bool m.ret]
def ElMg (F : Nat → Prop) (w : World) (cs : List Value) (m : MsgV) : Prop := ∃ pv, cs = mgCells m pv ∧ RowF F w 1 pv m.pay.length (payCells m.pay)
def pkCells (p : Pk) (pv : Value) : List Value := [.int .i64 p.kind, .int .i64 0, .bool false, .int .i64 0, .string ⟨#[]⟩, .bool false, .string ⟨#[]⟩, .slice none 0 0, .int .i64 0, .bool false, .bool false, .string ⟨#[]⟩, .bool false, .slice none 0 0, .bool false, .int .i64 0, .bool p.dup, .string p.msg.topic, pv, .int .i64 p.msg.qos, .bool p.msg.ret, .int .i64 p.id, .slice none 0 0, .slice none 0 0, .slice none 0 0]
def ElPk (F : Nat → Prop) (w : World) (cs : List Value) (p : Pk) : Prop := ∃ pv, cs = pkCells p pv ∧ RowF F w 1 pv p.msg.pay.length (payCells p.msg.pay)

theorem pay_slice {F : Nat → Prop} {w : World} {k n : Nat} {v : Value} {xs : List Value} (h : RowF F w k v n xs) : ∃ a c, v = .slice a n c := by
  obtain ⟨⟨_, a, c, e, _⟩, _⟩ := h
  exact ⟨a, c, e⟩
theorem eltFl : Elt 6 ElFl where
  len := by rintro F w cs a ⟨pv, rfl, _⟩; rfl
  one := by
    rintro F w cs a ⟨pv, rfl, h⟩ u hu
    obtain ⟨b, c, rfl⟩ := pay_slice h
    simp [flCells] at hu
    rcases hu with rfl | rfl | rfl | rfl | rfl | rfl <;> rfl
  keep := by rintro F w w' cs a ⟨pv, e, h⟩ hs; exact ⟨pv, e, h.keep hs⟩
  mono := by rintro F F' w cs a ⟨pv, e, h⟩ hs; exact ⟨pv, e, h.mono hs⟩
theorem eltMg : Elt 4 ElMg where
  len := by rintro F w cs a ⟨pv, rfl, _⟩; rfl
  one := by
    rintro F w cs a ⟨pv, rfl, h⟩ u hu
    obtain ⟨b, c, rfl⟩ := pay_slice h
    simp [mgCells] at hu
    rcases hu with rfl | rfl | rfl | rfl <;> rfl
  keep := by rintro F w w' cs a ⟨pv, e, h⟩ hs; exact ⟨pv, e, h.keep hs⟩
  mono := by rintro F F' w cs a ⟨pv, e, h⟩ hs; exact ⟨pv, e, h.mono hs⟩
theorem eltPk : Elt 25 ElPk where
  len := by rintro F w cs a ⟨pv, rfl, _⟩; rfl
  one := by
    rintro F w cs a ⟨pv, rfl, h⟩ u hu
    obtain ⟨b, c, rfl⟩ := pay_slice h
    simp only [pkCells, List.mem_cons, List.not_mem_nil, or_false] at hu
    repeat (first | (rcases hu with rfl | hu; · rfl) | (subst hu; rfl))
  keep := by rintro F w w' cs a ⟨pv, e, h⟩ hs; exact ⟨pv, e, h.keep hs⟩
  mono := by rintro F F' w cs a ⟨pv, e, h⟩ hs; exact ⟨pv, e, h.mono hs⟩

/-! ### The window. M: the blocks of the session that may turn; F: where its payloads lie. -/
structure WinAt (M F : Nat → Prop) (w : World) (wb : Nat) (W : Win) (fv wv : Value) (rb : Nat) : Prop where
  row : w.heap[wb]? = some (.cells #[.int .i64 W.win, .int .i64 W.que, .int .i64 W.last, fv, wv, .map (some rb), .bool W.on] 84 (0, 0))
  fls : ∃ css, Els ElFl F w css W.fl ∧ OwnAt w 0 86 6 fv W.fl.length css.flatten
  wts : ∃ css, Els ElMg F w css W.wt ∧ OwnAt w 0 41 4 wv W.wt.length css.flatten
  res : w.heap[rb]? = some (.map #[] 0)
  mw : M wb
  mf : ∀ b, fv.ownBlock = some b → M b ∧ b ≠ wb ∧ b ≠ rb
  mq : ∀ b, wv.ownBlock = some b → M b ∧ b ≠ wb ∧ b ≠ rb ∧ fv.ownBlock ≠ some b
  mr : M rb ∧ rb ≠ wb
  lim : ∀ x, M x → x < w.heap.size
  hF : ∀ b, F b → b < w.heap.size ∧ ¬ M b

/-- It abides what turns none of its blocks. -/
theorem WinAt.keep {M F : Nat → Prop} {w w' : World} {wb rb : Nat} {W : Win} {fv wv : Value} (h : WinAt M F w wb W fv wv rb) (hs : ∀ b, b < w.heap.size → (F b ∨ M b) → w'.heap[b]? = w.heap[b]?) (hsz : w.heap.size ≤ w'.heap.size) : WinAt M F w' wb W fv wv rb := by
  obtain ⟨c1, e1, o1⟩ := h.fls
  obtain ⟨c2, e2, o2⟩ := h.wts
  have hm : ∀ b, M b → w'.heap[b]? = w.heap[b]? := fun b hb => hs b (h.lim b hb) (.inr hb)
  exact ⟨(hm wb h.mw).trans h.row, ⟨c1, e1.keep eltFl (fun b hb hF => hs b hb (.inl hF)), o1.keep (fun b e => hm b (h.mf b e).1)⟩, ⟨c2, e2.keep eltMg (fun b hb hF => hs b hb (.inl hF)), o2.keep (fun b e => hm b (h.mq b e).1)⟩, (hm rb h.mr.1).trans h.res, h.mw, h.mf, h.mq, h.mr, fun x hx => by have := h.lim x hx; omega, fun b hb => ⟨by have := (h.hF b hb).1; omega, (h.hF b hb).2⟩⟩
/-- What it holds may lie further about. -/
theorem WinAt.widen {M F F' : Nat → Prop} {w : World} {wb rb : Nat} {W : Win} {fv wv : Value} (h : WinAt M F w wb W fv wv rb) (h1 : ∀ b, F b → F' b) (h2 : ∀ b, F' b → b < w.heap.size ∧ ¬ M b) : WinAt M F' w wb W fv wv rb := by
  obtain ⟨c1, e1, o1⟩ := h.fls
  obtain ⟨c2, e2, o2⟩ := h.wts
  exact ⟨h.row, ⟨c1, e1.mono eltFl h1, o1⟩, ⟨c2, e2.mono eltMg h1, o2⟩, h.res, h.mw, h.mf, h.mq, h.mr, h.lim, h2⟩
theorem WinAt.below {M F : Nat → Prop} {w w' : World} {wb rb : Nat} {W : Win} {fv wv : Value} (h : WinAt M F w wb W fv wv rb) (hb : Below w.heap.size w w') : WinAt M F w' wb W fv wv rb := h.keep (fun b hlt _ => hb.block b hlt) hb.size

theorem WinAt.cell {M F : Nat → Prop} {w : World} {wb rb : Nat} {W : Win} {fv wv : Value} (h : WinAt M F w wb W fv wv rb) (j : Nat) (u : Value) (hu : (#[Value.int .i64 W.win, .int .i64 W.que, .int .i64 W.last, fv, wv, .map (some rb), .bool W.on] : Array Value)[j]? = some u) : w.cell? ⟨wb, j, none⟩ = some u := by
  unfold World.cell?; simp only; rw [h.row]; simpa using hu
theorem WinAt.fslice {M F : Nat → Prop} {w : World} {wb rb : Nat} {W : Win} {fv wv : Value} (h : WinAt M F w wb W fv wv rb) : ∃ a c, fv = .slice a W.fl.length c := by
  obtain ⟨c1, e1, o1⟩ := h.fls
  obtain ⟨_, a, c, e, _⟩ := o1.row
  exact ⟨a, c, e⟩
theorem WinAt.wslice {M F : Nat → Prop} {w : World} {wb rb : Nat} {W : Win} {fv wv : Value} (h : WinAt M F w wb W fv wv rb) : ∃ a c, wv = .slice a W.wt.length c := by
  obtain ⟨c1, e1, o1⟩ := h.wts
  obtain ⟨_, a, c, e, _⟩ := o1.row
  exact ⟨a, c, e⟩
theorem WinAt.freads {M F : Nat → Prop} {w : World} {wb rb : Nat} {W : Win} {fv wv : Value} (h : WinAt M F w wb W fv wv rb) : Reads 6 ElFl (F) w fv W.fl := by
  obtain ⟨c1, e1, o1⟩ := h.fls
  exact ⟨c1, e1, o1.row⟩
theorem WinAt.wreads {M F : Nat → Prop} {w : World} {wb rb : Nat} {W : Win} {fv wv : Value} (h : WinAt M F w wb W fv wv rb) : Reads 4 ElMg (F) w wv W.wt := by
  obtain ⟨c1, e1, o1⟩ := h.wts
  exact ⟨c1, e1, o1.row⟩

/-- What a call leaves of it: M and F have grown by what the call made; nothing but M's blocks has turned. -/
structure WinPost (M F M' F' : Nat → Prop) (w w' : World) (wb rb : Nat) (W' : Win) : Prop where
  at' : ∃ fv wv, WinAt M' F' w' wb W' fv wv rb
  sub : ∀ x, M x → M' x
  new : ∀ x, M' x → M x ∨ (w.heap.size ≤ x ∧ x < w'.heap.size)
  subF : ∀ x, F x → F' x
  newF : ∀ x, F' x → F x ∨ (w.heap.size ≤ x ∧ x < w'.heap.size)
  turn : Turn M w w'
theorem WinPost.trans {M F M1 F1 M2 F2 : Nat → Prop} {w w1 w2 : World} {wb rb : Nat} {W1 W2 : Win} (h : WinPost M F M1 F1 w w1 wb rb W1) (k : WinPost M1 F1 M2 F2 w1 w2 wb rb W2) : WinPost M F M2 F2 w w2 wb rb W2 := by
  have h1 := h.turn.size
  have h2 := k.turn.size
  refine ⟨k.at', fun x hx => k.sub x (h.sub x hx), fun x hx => ?_, fun x hx => k.subF x (h.subF x hx), fun x hx => ?_, h.turn.trans' k.turn (fun x hx => by rcases h.new x hx with hx | hx; exact .inl hx; exact .inr hx.1)⟩
  · rcases k.new x hx with hx | hx
    · rcases h.new x hx with hx | hx
      · exact .inl hx
      · exact .inr ⟨hx.1, by omega⟩
    · exact .inr ⟨by omega, hx.2⟩
  · rcases k.newF x hx with hx | hx
    · rcases h.newF x hx with hx | hx
      · exact .inl hx
      · exact .inr ⟨hx.1, by omega⟩
    · exact .inr ⟨by omega, hx.2⟩
theorem WinPost.refl {M F : Nat → Prop} {w : World} {wb rb : Nat} {W : Win} {fv wv : Value} (h : WinAt M F w wb W fv wv rb) : WinPost M F M F w w wb rb W := ⟨⟨fv, wv, h⟩, fun _ h => h, fun _ h => .inl h, fun _ h => h, fun _ h => .inl h, Turn.refl _ _⟩
theorem WinPost.more {M F M1 F1 : Nat → Prop} {w w1 w2 : World} {wb rb : Nat} {W1 : Win} (h : WinPost M F M1 F1 w w1 wb rb W1) (hb : Below w1.heap.size w1 w2) : WinPost M F M1 F1 w w2 wb rb W1 := by
  obtain ⟨fv, wv, h1⟩ := h.at'
  exact h.trans ⟨⟨fv, wv, h1.below hb⟩, fun _ h => h, fun _ h => .inl h, fun _ h => h, fun _ h => .inl h, Turn.of_below hb⟩

/-- Packets that were told: out of the session's blocks. -/
def PksAt (F : Nat → Prop) (w : World) (v : Value) (ps : List Pk) : Prop := Reads 25 ElPk F w v ps ∧ ∀ b, v.ownBlock = some b → F b
end Go.Proofs.Ytppndkbicekkjaa

/- Proved here: slices.Clone at []byte. -/
namespace Go.Proofs.Ytppndkbicekkjaa
open Go Go.RowKit Go.Proofs.Gs

theorem infoCloB : (Try.prog.info? 5).map (fun i => (i.zero, i.size, i.bytes)) = some (some (.int .u8 0), 1, 1) := by kernel_rfl

set_option maxHeartbeats 1000000 in
set_option maxRecDepth 100000 in
theorem cloneB_any {w : World} {v : Value} {n : Nat} {xs : List Value} (h : RowAt w 1 v n xs) (hn : n ≤ 1000000001) (h1 : ∀ u ∈ xs, u.oneCell' = true) :
    Calls Try.prog 36 #[v] w fun e w' => ∃ v', e = .returned v' ∧ w'.ownsRow w.heap.size 5 1 v' n xs ∧ Below w.heap.size w w' := by
  obtain ⟨i0, hi0, hz0, hz1, hz2⟩ := info_parts infoCloB
  have hnil := fun (W : World) (a : Option Addr) (l c : Nat) => Go.run_eql_slice_nil (P := Try.prog) W 39 5 a l c Try.underlying39
  have hnew : ∀ W : World, (W.alloc (.cells #[] 5)).ownsRow W.heap.size 5 1 (.slice (some ⟨W.heap.size, 0, none⟩) 0 0) 0 [] := fun W =>
    ⟨by simp, .inr ⟨W.heap.size, 0, #[], rfl, Nat.le_refl _, (MapKept.heap_alloc W _).1, Nat.le_refl _, Nat.zero_le _, by simp, by simp⟩⟩
  have HN := Lib.hid (hnew w)
  have H1 := Lib.hid h1
  have hxl := h.1
  rcases RowAt.cases h with ⟨rfl, rfl, a, cap, rfl, hcm⟩ | ⟨hpos, b, off, cap, rfl, hnc, hcm, hb, hc⟩
  · clear hnew h1 h hxl
    cases a with
    | none =>
      go_enter Try.func36, Try.ntmps36
      go_wp2_with fail
      go_ret
      exact ⟨_, rfl, ⟨by simp, .inl ⟨rfl, rfl⟩⟩, Below.refl _ _⟩
    | some ad =>
      go_enter Try.func36, Try.ntmps36
      go_wp2_with (at_builtin; refine wpList_append_own _ rfl _ _ 39 rfl w.heap.size 5 i0 (.int .u8 0) 1 1 Try.underlying39 hi0 hz0 hz1 hz2 rfl (by decide) _ _ _ rfl HN.out ad 0 cap [] rfl (by simp) (by simp) (by simp) ?c2 ?c3 ?c4 ?_)
      case c2 => exact Nat.zero_le _
      case c3 => omega
      case c4 => simp
      intro v' w1 hown1 hgrow _
      have H2 := Lib.hid hown1
      have H3 := Lib.hid hgrow
      clear hown1 hgrow
      go_wp2_with fail
      go_ret
      exact ⟨_, rfl, H2.out, ((Below.refl _ w).alloc (Nat.le_refl _) _).grown H3.out (by simp) (fun x hx => by simp [Value.ownBlock] at hx; omega)⟩
  · have hcb : ∀ j u, xs[j]? = some u → (w.alloc (.cells #[] 5)).cell? ((⟨b, off, none⟩ : Addr).add j) = some u := fun j u hu => by
      rw [Addr.add_lit]
      exact (World.cell?_of_block (w := w) (a := ⟨b, off + j, none⟩) (Below.heap_alloc w _ b hb)).trans (hc j u hu)
    have HC := Lib.hid hcb
    have HX := Lib.hid hxl
    have hm1 : ¬ n = 0 := by omega
    clear hnew h1 h hxl hcb hc
    go_enter Try.func36, Try.ntmps36
    go_wp2_with (at_builtin; refine wpList_append_own _ rfl _ _ 39 rfl w.heap.size 5 i0 (.int .u8 0) 1 1 Try.underlying39 hi0 hz0 hz1 hz2 rfl (by decide) _ _ _ rfl HN.out ⟨b, off, none⟩ n cap xs rfl HX.out HC.out H1.out ?c2 ?c3 ?c4 ?_)
    case c2 => unfold maxLen; omega
    case c3 => omega
    case c4 => simp
    intro v' w1 hown1 hgrow _
    have H2 := Lib.hid hown1
    have H3 := Lib.hid hgrow
    clear hown1 hgrow
    go_wp2_with fail
    go_ret
    have h2 := H2.out
    try rw [Nat.zero_add, List.nil_append] at h2
    exact ⟨_, rfl, h2, ((Below.refl _ w).alloc (Nat.le_refl _) _).grown H3.out (by simp) (fun x hx => by simp [Value.ownBlock] at hx; omega)⟩
end Go.Proofs.Ytppndkbicekkjaa

/- Plain: a message as a value; rows laid down, set anew. No code walked. -/
namespace Go.Proofs.Ytppndkbicekkjaa
open Go Go.RowKit Go.Proofs.Gs Go.Proofs.Rt Go.Proofs.Sw

/-- A message as a value. -/
def MsgVal (F : Nat → Prop) (w : World) (v : Value) (m : MsgV) : Prop := ∃ pv, v = .agg #[.string m.topic, pv, .int .i64 m.qos, .bool m.ret] ∧ RowF F w 1 pv m.pay.length (payCells m.pay)

theorem pay_one (l : List Int) : ∀ u ∈ payCells l, u.oneCell' = true := by
  intro u hu
  obtain ⟨b, _, rfl⟩ := List.mem_map.1 hu
  rfl

theorem two_rows {w W : World} {c1 c2 : Array Value} {t : TypeId} (h : (w.alloc (.cells c1 t)).alloc (.cells c2 t) = W) : Below w.heap.size w W ∧ W.heap.size = w.heap.size + 2 ∧ W.heap[w.heap.size]? = some (.cells c1 t (0, 0)) ∧ W.heap[w.heap.size + 1]? = some (.cells c2 t (0, 0)) := by
  subst h
  have g0 := (MapKept.heap_alloc w (.cells c1 t)).1
  have g1 := (MapKept.heap_alloc (w.alloc (.cells c1 t)) (.cells c2 t)).1
  have g0' := (Below.heap_alloc (w.alloc (.cells c1 t)) (.cells c2 t) w.heap.size (by simp)).trans g0
  rw [show (w.alloc (.cells c1 t)).heap.size = w.heap.size + 1 by simp] at g1
  exact ⟨((Below.refl _ w).alloc (Nat.le_refl _) _).alloc (by simp) _, by simp, g0', g1⟩

/-- Four cells of a block set anew. -/
theorem set4 {w W : World} {g : Nat} {a b c d a' b' c' d' : Value} {t : TypeId} (hg : w.heap[g]? = some (.cells #[a, b, c, d] t (0, 0))) (h : (((w.setCell ⟨g, 0, none⟩ a').setCell ⟨g, 1, none⟩ b').setCell ⟨g, 2, none⟩ c').setCell ⟨g, 3, none⟩ d' = W) :
    W.heap[g]? = some (.cells #[a', b', c', d'] t (0, 0)) ∧ (∀ B, B ≤ g → Below B w W) ∧ W.heap.size = w.heap.size := by
  subst h
  have e1 := heap_setCell_same w g 0 _ t a' hg
  have e2 := heap_setCell_same _ g 1 _ t b' e1
  have e3 := heap_setCell_same _ g 2 _ t c' e2
  have e4 := heap_setCell_same _ g 3 _ t d' e3
  refine ⟨e4, fun B hB => ((((Below.refl B w).setCell (p := ⟨g, 0, none⟩) hB _).setCell (p := ⟨g, 1, none⟩) hB _).setCell (p := ⟨g, 2, none⟩) hB _).setCell (p := ⟨g, 3, none⟩) hB _, by simp [World.setCell]⟩

def Fresh (w w' : World) : Nat → Prop := fun x => w.heap.size ≤ x ∧ x < w'.heap.size

theorem cell4' {w : World} {b : Nat} {cs : Array Value} {t : TypeId} (h : w.heap[b]? = some (.cells cs t (0, 0))) (j : Nat) (u : Value) (hu : cs[j]? = some u) : w.cell? ⟨b, j, none⟩ = some u := by
  unfold World.cell?; simp only; rw [h]; simpa using hu
theorem cell_below' {w w' : World} (hb : Below w.heap.size w w') {b o : Nat} {u : Value} (h : w.cell? ⟨b, o, none⟩ = some u) : w'.cell? ⟨b, o, none⟩ = some u := cell_below hb h
end Go.Proofs.Ytppndkbicekkjaa
