/-
  What the functions compute, in plain Lean: words.
  Conditions: none; this text names no law and no program.
-/
import Derived.Below
namespace Go.Proofs.Ytjecfenkbpcehaa.M

/-- All elements so far have the property: the step of a loop that searches for the first one that lacks it. -/
theorem all_take_succ {α : Type} (p : α → Bool) (l : List α) (k : Nat) (h : k < l.length) : (l.take (k + 1)).all p = ((l.take k).all p && p l[k]) := by
  rw [List.take_succ_eq_append_getElem h, List.all_append]; simp
theorem all_of_take {α : Type} (p : α → Bool) (l : List α) (k : Nat) (hk : l.length ≤ k) (h : (l.take k).all p = true) : l.all p = true := by
  rwa [List.take_of_length_le hk] at h
theorem all_false_of {α : Type} (p : α → Bool) (l : List α) (k : Nat) (h : k < l.length) (hp : p l[k] = false) : l.all p = false := by
  rw [List.all_eq_false]; exact ⟨l[k], List.getElem_mem h, by simp [hp]⟩

def within (n lo hi : Int) : Bool := decide (lo ≤ n) && decide (n ≤ hi)

def isDig (c : UInt8) : Bool := decide ((48 : Int) ≤ (c.toNat : Int)) && decide ((c.toNat : Int) ≤ 57)
def isLow (c : UInt8) : Bool := decide ((97 : Int) ≤ (c.toNat : Int)) && decide ((c.toNat : Int) ≤ 122)
def IsDigits (l : List UInt8) : Bool := !l.isEmpty && l.all isDig
def IsName (l : List UInt8) : Bool := within l.length 1 8 && isLow (l.headD 0) && l.all fun c => isLow c || isDig c

/-- How far the search through a name has come without finding a fault. -/
def NameTo (l : List UInt8) (k : Nat) : Prop := (0 < k → isLow (l.headD 0) = true) ∧ (l.take k).all (fun c => isLow c || isDig c) = true
theorem nameTo_zero (l : List UInt8) : NameTo l 0 := ⟨fun h => absurd h (by omega), by simp⟩
theorem head_at (l : List UInt8) (h : 0 < l.length) : l.headD 0 = l[0] := by cases l with | nil => simp at h | cons a r => rfl
theorem nameTo_succ (l : List UInt8) (k : Nat) (h : k < l.length) (hn : NameTo l k) (hc : isLow l[k] = true ∨ (0 < k ∧ isDig l[k] = true)) : NameTo l (k + 1) := by
  refine ⟨fun _ => ?_, ?_⟩
  · rcases Nat.eq_zero_or_pos k with h0 | h0
    · subst h0
      rcases hc with hc | hc
      · rw [head_at l h]; exact hc
      · omega
    · exact hn.1 h0
  · rw [all_take_succ _ _ _ h, hn.2]
    rcases hc with hc | hc <;> simp [hc]
theorem isName_yes (l : List UInt8) (k : Nat) (hk : l.length ≤ k) (hn : NameTo l k) : IsName l = within l.length 1 8 := by
  unfold IsName
  rw [all_of_take _ _ _ hk hn.2]
  cases l with
  | nil => simp [within]
  | cons a r =>
    have := hn.1 (by simp at hk; omega)
    simp at this
    simp [this]
theorem isName_no (l : List UInt8) (k : Nat) (h : k < l.length) (h1 : isLow l[k] = false) (h2 : k = 0 ∨ isDig l[k] = false) : IsName l = false := by
  unfold IsName
  rcases h2 with h2 | h2
  · subst h2
    rw [head_at l h, h1]; simp
  · rw [all_false_of (fun c => isLow c || isDig c) l k h (by simp [h1, h2])]; simp
theorem isName_long (l : List UInt8) (h : l.length < 1 ∨ 8 < l.length) : IsName l = false := by
  unfold IsName within
  rcases h with h | h
  · have : ¬ (1 : Int) ≤ l.length := by omega
    simp [this]
  · have : ¬ (l.length : Int) ≤ 8 := by omega
    simp [this]
theorem isName_head (l : List UInt8) (h : 0 < l.length) (h1 : isLow l[0] = false) : IsName l = false := isName_no l 0 h h1 (Or.inl rfl)
theorem isDig_false {c : UInt8} (h : (c.toNat : Int) < 48 ∨ 57 < (c.toNat : Int)) : isDig c = false := by simp [isDig]; omega
theorem isDig_true {c : UInt8} (h : 48 ≤ (c.toNat : Int) ∧ (c.toNat : Int) ≤ 57) : isDig c = true := by simp [isDig]; omega
theorem isLow_false {c : UInt8} (h : (c.toNat : Int) < 97 ∨ 122 < (c.toNat : Int)) : isLow c = false := by simp [isLow]; omega
theorem isLow_true {c : UInt8} (h : 97 ≤ (c.toNat : Int) ∧ (c.toNat : Int) ≤ 122) : isLow c = true := by simp [isLow]; omega
theorem digits_one (c : UInt8) : IsDigits [c] = isDig c := by simp [IsDigits]

def isLetter (k : Int) (c : UInt8) : Bool := decide ((97 : Int) ≤ (c.toNat : Int)) && decide ((c.toNat : Int) ≤ 97 + k - 1)
def hasLetters (k : Int) (l : List UInt8) : Bool := l.all (isLetter k)
def WordOk (k : Int) (l : List UInt8) : Bool := within k 1 4 && (decide ((l.length : Int) ≤ 16) && hasLetters k l)

theorem isLetter_false {k : Int} {c : UInt8} (h : (c.toNat : Int) < 97 ∨ 97 + k - 1 < (c.toNat : Int)) : isLetter k c = false := by simp [isLetter]; omega
theorem isLetter_true {k : Int} {c : UInt8} (h : 97 ≤ (c.toNat : Int) ∧ (c.toNat : Int) ≤ 97 + k - 1) : isLetter k c = true := by simp [isLetter]; omega
theorem isLetter_within (k : Int) (c : UInt8) : within c.toNat 97 (97 + k - 1) = isLetter k c := rfl

theorem within_yes (k : Int) (h : 1 ≤ k ∧ k ≤ 4) : within k 1 4 = true := by simp [within]; omega
theorem within_no (k : Int) (h : ¬ (1 ≤ k ∧ k ≤ 4)) : within k 1 4 = false := by simp [within]; omega
theorem wordOk_short (k : Int) (l : List UInt8) (h : 1 ≤ k ∧ k ≤ 4) (hl : l.length ≤ 16) : WordOk k l = hasLetters k l := by
  unfold WordOk; rw [within_yes k h]; simp; omega
theorem wordOk_no (k : Int) (l : List UInt8) (h : ¬ (1 ≤ k ∧ k ≤ 4) ∨ 16 < l.length) : WordOk k l = false := by
  unfold WordOk
  rcases h with h | h
  · rw [within_no k h]; simp
  · have : ¬ (l.length : Int) ≤ 16 := by omega
    simp [this]

/-- The word with `by_` in place of some bytes; the empty one where that can't be. -/
def ReplaceAt (w : List UInt8) (p n : Int) (by_ : List UInt8) : List UInt8 × Bool :=
  if p < 0 ∨ n < 0 ∨ p > w.length ∨ n > w.length - p ∨ w.length - n + by_.length > 16 then ([], false)
  else (w.take p.toNat ++ (by_ ++ w.drop (p + n).toNat), true)

structure Rule where
  left : List UInt8
  right : List UInt8
deriving DecidableEq

def dotted (w : List UInt8) : List UInt8 := if w.isEmpty then [46] else w
theorem dotted_len (w : List UInt8) : (dotted w).length ≤ w.length + 1 := by unfold dotted; split <;> simp
def FormatRule (r : Rule) : List UInt8 := dotted r.left ++ (62 :: dotted r.right)

/-- What is left of a bound when a rule's letters are taken from it. -/
def szRule (r : Rule) (left : Int) : Int := if left - r.left.length < 0 then -1 else if left - r.left.length - r.right.length < 0 then -1 else left - r.left.length - r.right.length
theorem szRule_ok {r : Rule} {n : Int} (h : ¬ szRule r n < 0) : szRule r n = n - r.left.length - r.right.length ∧ (r.left.length : Int) + r.right.length ≤ n := by
  unfold szRule at *; split at h
  · omega
  · split at h
    · omega
    · rename_i h1 h2; rw [if_neg h1, if_neg h2]; exact ⟨rfl, by omega⟩

end Go.Proofs.Ytjecfenkbpcehaa.M
