/- Plain law: what the layer topic answers, as functions on texts. No program in sight. -/
import Derived.Test.YtmjpnpnmhacknaaTpPlain
import Derived.Lib.Strings
import Derived.Lib.Join
import Derived.Lib.IndexAny
import Derived.Sort.Walk0
namespace Go.Proofs.Tp
open Go

theorem extract_drop (s : ByteArray) (i : Nat) : (s.extract i s.size).data.toList = s.data.toList.drop i := by
  rw [Lib.extract_data]
  rw [List.take_of_length_le (by simp)]

/-- Is it a text? -/
def isText (s : ByteArray) : Bool := decide (s.size ≤ 65535) && utf [] s.data.toList

/-- Has it a sign? -/
def signL (l : List UInt8) : Bool := l.any fun c => c == 43 || c == 35
def sign (s : ByteArray) : Bool := signL s.data.toList

def textE (s : ByteArray) : Int := if s.size = 0 then 50 else if isText s then 0 else 51
def chk (s : ByteArray) : Int := if textE s = 0 then (if sign s then 52 else 0) else textE s

/-- A filter's levels: is there one that cannot stand? -/
def badLv : List ByteArray → Bool
  | [] => false
  | x :: r => (sign x && decide (1 < x.size)) || (decide (x.data.toList = [35]) && !r.isEmpty) || badLv r

def chkF (s : ByteArray) : Int := if textE s = 0 then (if badLv (levels s) then 52 else 0) else textE s

theorem textE_nonneg (s : ByteArray) : 0 ≤ textE s := by unfold textE; split <;> (try split) <;> omega
theorem textE_lt (s : ByteArray) : textE s < 60 := by unfold textE; split <;> (try split) <;> omega
theorem chk_nonneg (s : ByteArray) : 0 ≤ chk s := by unfold chk; have := textE_nonneg s; split <;> (try split) <;> omega
theorem chk_lt (s : ByteArray) : chk s < 60 := by unfold chk; have := textE_lt s; split <;> (try split) <;> omega
theorem chkF_nonneg (s : ByteArray) : 0 ≤ chkF s := by unfold chkF; have := textE_nonneg s; split <;> (try split) <;> omega
theorem chkF_lt (s : ByteArray) : chkF s < 60 := by unfold chkF; have := textE_lt s; split <;> (try split) <;> omega

/-- Where the decoding says U+FFFD: it stands there (three bytes), or the byte is amiss. -/
theorem decode_fffd (s : ByteArray) (pos : Nat) (h : pos < s.size) (hc : (Utf8.decode s pos).1 = 65533) :
    Lib.hasPrefix (s.data.toList.drop pos) [239, 191, 189] = !decide ((Utf8.decode s pos).2 = 1) := by
  have b0 := (s.get! pos).toNat_lt; have b1 := (s.get! (pos + 1)).toNat_lt; have b2 := (s.get! (pos + 2)).toNat_lt
  have t0 : ∀ (x y : UInt8), x = y ↔ x.toNat = y.toNat := fun x y => ⟨fun e => by rw [e], UInt8.toNat.inj⟩
  have hp : Lib.hasPrefix (s.data.toList.drop pos) [239, 191, 189] = decide ((s.get! pos).toNat = 239 ∧ pos + 1 < s.size ∧ (s.get! (pos + 1)).toNat = 191 ∧ pos + 2 < s.size ∧ (s.get! (pos + 2)).toNat = 189) := by
    unfold Lib.hasPrefix
    rw [drop_get s pos h]
    by_cases h1 : pos + 1 < s.size
    · rw [drop_get s _ h1]
      by_cases h2 : pos + 2 < s.size
      · rw [drop_get s _ h2, Bool.eq_iff_iff]
        simp only [List.isPrefixOf, Bool.and_true, Bool.and_eq_true, beq_iff_eq, decide_eq_true_eq, h1, h2, true_and]
        rw [t0 239, t0 191, t0 189]
        have e1 : (239 : UInt8).toNat = 239 := rfl
        have e2 : (191 : UInt8).toNat = 191 := rfl
        have e3 : (189 : UInt8).toNat = 189 := rfl
        rw [e1, e2, e3]
        omega
      · rw [drop_end s _ h2]
        have : ¬ ((s.get! pos).toNat = 239 ∧ pos + 1 < s.size ∧ (s.get! (pos + 1)).toNat = 191 ∧ pos + 2 < s.size ∧ (s.get! (pos + 2)).toNat = 189) := by omega
        rw [decide_eq_false this]
        simp [List.isPrefixOf]
    · rw [drop_end s _ h1]
      have : ¬ ((s.get! pos).toNat = 239 ∧ pos + 1 < s.size ∧ (s.get! (pos + 1)).toNat = 191 ∧ pos + 2 < s.size ∧ (s.get! (pos + 2)).toNat = 189) := by omega
      rw [decide_eq_false this]
      simp [List.isPrefixOf]
  rw [hp]
  rw [decode_eq s pos h] at hc ⊢
  obtain ⟨n, hn⟩ : ∃ n, n = s.size - pos := ⟨_, rfl⟩
  rw [← hn] at hc ⊢
  have e1 : (pos + 1 < s.size) = (1 < n) := by simp; omega
  have e2 : (pos + 2 < s.size) = (2 < n) := by simp; omega
  simp only [e1, e2]
  clear hp e1 e2 hn h
  generalize (s.get! pos).toNat = c0 at *
  generalize (s.get! (pos + 1)).toNat = c1 at *
  generalize (s.get! (pos + 2)).toNat = c2 at *
  generalize (s.get! (pos + 3)).toNat = c3 at *
  by_cases q : c0 = 239 ∧ 1 < n ∧ c1 = 191 ∧ 2 < n ∧ c2 = 189
  · rw [decide_eq_true q]
    obtain ⟨rfl, q1, rfl, q2, rfl⟩ := q
    have : decN n 239 191 189 c3 = (65533, 3) := by simp [decN, q1, q2]
    rw [this]; rfl
  · rw [decide_eq_false q]
    have : (decN n c0 c1 c2 c3).2 = 1 := by
      unfold decN at hc ⊢
      split
      · rfl
      · rename_i g0
        rw [if_neg g0] at hc
        split
        · rename_i g1
          rw [if_pos g1] at hc
          split
          · rename_i g2; rw [if_pos g2] at hc; simp only at hc; omega
          · rfl
        · rename_i g1
          rw [if_neg g1] at hc
          split
          · rename_i g2
            rw [if_pos g2] at hc
            split
            · rename_i g3; rw [if_pos g3] at hc; simp only at hc; omega
            · rfl
          · rename_i g2
            rw [if_neg g2] at hc
            split
            · rename_i g3
              rw [if_pos g3] at hc
              split
              · rename_i g4; rw [if_pos g4] at hc; simp only at hc; omega
              · rfl
            · rfl
    rw [this]; rfl

/-- Where a decoding tells no sign, the bytes that it takes are none; where it tells one, there is one. -/
theorem sign_step (s : ByteArray) (pos : Nat) (h : pos < s.size) (h1 : (Utf8.decode s pos).1 ≠ 43) (h2 : (Utf8.decode s pos).1 ≠ 35) :
    signL (s.data.toList.drop pos) = signL (s.data.toList.drop (pos + (Utf8.decode s pos).2)) := by
  have a := (decode_byte s pos h 43 (by decide))
  have b := (decode_byte s pos h 35 (by decide))
  have a1 := a.1.resolve_left (fun x => h1 x.1)
  have b1 := b.1.resolve_left (fun x => h2 x.1)
  have key : ∀ w, (∀ j, j < w → s.data.toList[pos + j]? ≠ some 43) → (∀ j, j < w → s.data.toList[pos + j]? ≠ some 35) → signL (s.data.toList.drop pos) = signL (s.data.toList.drop (pos + w)) := by
    intro w ha hb
    induction w with
    | zero => rfl
    | succ w ih =>
      rw [ih (fun j hj => ha j (by omega)) (fun j hj => hb j (by omega))]
      by_cases hp : pos + w < s.size
      · rw [drop_get s (pos + w) hp, ← Nat.add_assoc]
        have g := get_toList s (pos + w) hp
        have n1 : s.get! (pos + w) ≠ 43 := fun e => ha w (by omega) (by rw [g, e])
        have n2 : s.get! (pos + w) ≠ 35 := fun e => hb w (by omega) (by rw [g, e])
        simp [signL, n1, n2]
      · rw [drop_end s _ hp, drop_end s _ (by omega)]
  exact key _ a1.2 b1.2

theorem sign_here (s : ByteArray) (pos : Nat) (h : pos < s.size) (h1 : (Utf8.decode s pos).1 = 43 ∨ (Utf8.decode s pos).1 = 35) : signL (s.data.toList.drop pos) = true := by
  rw [drop_get s pos h]
  rcases h1 with h1 | h1
  · have a := (decode_byte s pos h 43 (by decide)).1.resolve_right (fun x => x.1 h1)
    have g := get_toList s pos h
    rw [a.2.2] at g
    rw [← Option.some.inj g]; rfl
  · have a := (decode_byte s pos h 35 (by decide)).1.resolve_right (fun x => x.1 h1)
    have g := get_toList s pos h
    rw [a.2.2] at g
    rw [← Option.some.inj g]; rfl

theorem indexAny_sign : ∀ l : List UInt8, decide (0 ≤ Lib.indexAny l [43, 35]) = signL l
  | [] => rfl
  | c :: l => by
    have ih := indexAny_sign l
    have hg := Lib.indexAny_ge [43, 35] l
    unfold Lib.indexAny
    by_cases h : [43, 35].contains c = true
    · rw [if_pos h]
      have : signL (c :: l) = true := by
        simp only [List.contains_cons, List.contains_nil, Bool.or_false, Bool.or_eq_true, beq_iff_eq] at h
        rcases h with rfl | rfl <;> rfl
      rw [this]; rfl
    · rw [if_neg h]
      have : signL (c :: l) = signL l := by
        simp only [List.contains_cons, List.contains_nil, Bool.or_false, Bool.or_eq_true, beq_iff_eq, not_or] at h
        simp [signL, h.1, h.2]
      rw [this, ← ih]
      by_cases h0 : 0 ≤ Lib.indexAny l [43, 35]
      · have : (Lib.indexAny l [43, 35] == -1) = false := by rw [beq_eq_false_iff_ne]; omega
        rw [this]; simp only [Bool.false_eq_true, if_false]
        rw [decide_eq_true h0, decide_eq_true (by omega)]
      · have : (Lib.indexAny l [43, 35] == -1) = true := by rw [beq_iff_eq]; omega
        rw [this]; simp only [if_true]
        rw [decide_eq_false h0]; rfl

/-- Two texts, byte by byte. -/
def cmpB (x y : ByteArray) : Int := if x.data.toList < y.data.toList then -1 else if y.data.toList < x.data.toList then 1 else 0

/-- Lists of texts, one by one. -/
def cmpL : List ByteArray → List ByteArray → Int
  | [], [] => 0
  | [], _ :: _ => -1
  | _ :: _, [] => 1
  | x :: a, y :: b => if cmpB x y = 0 then cmpL a b else cmpB x y

def cmpT (a b : ByteArray) : Int := cmpL (levels a) (levels b)

/-- Do a filter's levels match a topic's? -/
def goesL : List ByteArray → List ByteArray → Bool
  | [], t => t.isEmpty
  | f :: fs, t => if f.data.toList = [35] then true else
    match t with
    | [] => false
    | x :: ts => if f.data.toList = [43] ∨ f = x then goesL fs ts else false

def mkB (l : List UInt8) : ByteArray := ⟨l.toArray⟩

/-- Levels as a text. -/
def joinT (L : List ByteArray) : ByteArray := ⟨(Lib.join (L.map (·.data.toList)) [47]).toArray⟩

/-- A shared filter's group and inner filter. -/
def shared (s : ByteArray) : Option (ByteArray × ByteArray) :=
  match levels s with
  | a :: g :: x :: r =>
    if a.data.toList = [36, 115, 104, 97, 114, 101] ∧ chk g = 0 ∧ chkF (joinT (x :: r)) = 0 ∧ chkF s = 0 then some (g, joinT (x :: r)) else none
  | _ => none

/-- Does a filter match a topic? -/
def matchT (f t : ByteArray) : Bool :=
  if (shared f).isSome ∨ chkF f ≠ 0 ∨ chk t ≠ 0 then false
  else if t.data.toList.head? = some 36 ∧ ((levels f).head?.map (·.data.toList) = some [43] ∨ (levels f).head?.map (·.data.toList) = some [35]) then false
  else goesL (levels f) (levels t)

end Go.Proofs.Tp
