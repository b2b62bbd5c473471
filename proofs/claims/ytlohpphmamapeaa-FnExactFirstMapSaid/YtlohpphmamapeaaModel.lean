/-
  What the functions compute, in plain Lean: words.
  Conditions: none; this text names no law and no program.
-/
import Derived.Below
namespace Go.Proofs.Ytlohpphmamapeaa.M

/-- All elements so far have the property: the step of a loop that searches for the first one that lacks it. -/
theorem all_take_succ {α : Type} (p : α → Bool) (l : List α) (k : Nat) (h : k < l.length) : (l.take (k + 1)).all p = ((l.take k).all p && p l[k]) := by
  rw [List.take_succ_eq_append_getElem h, List.all_append]; simp
theorem all_of_take {α : Type} (p : α → Bool) (l : List α) (k : Nat) (hk : l.length ≤ k) (h : (l.take k).all p = true) : l.all p = true := by
  rwa [List.take_of_length_le hk] at h
theorem all_false_of {α : Type} (p : α → Bool) (l : List α) (k : Nat) (h : k < l.length) (hp : p l[k] = false) : l.all p = false := by
  rw [List.all_eq_false]; exact ⟨l[k], List.getElem_mem h, by simp [hp]⟩

def within (n lo hi : Int) : Bool := decide (lo ≤ n) && decide (n ≤ hi)

def isDig (c : UInt8) : Bool := decide ((48 : Int) ≤ (c.toNat : Int)) && decide ((c.toNat : Int) ≤ 57)
def isLow (c : UInt8) : Bool := decide ((97 : Int) ≤ (c.toNat : Int)) && decide ((c.toNat : Int) ≤ 122)
def IsDigits (l : List UInt8) : Bool := !l.isEmpty && l.all isDig
def IsName (l : List UInt8) : Bool := within l.length 1 8 && isLow (l.headD 0) && l.all fun c => isLow c || isDig c

/-- How far the search through a name has come without finding a fault. -/
def NameTo (l : List UInt8) (k : Nat) : Prop := (0 < k → isLow (l.headD 0) = true) ∧ (l.take k).all (fun c => isLow c || isDig c) = true
theorem nameTo_zero (l : List UInt8) : NameTo l 0 := ⟨fun h => absurd h (by omega), by simp⟩
theorem head_at (l : List UInt8) (h : 0 < l.length) : l.headD 0 = l[0] := by cases l with | nil => simp at h | cons a r => rfl
theorem nameTo_succ (l : List UInt8) (k : Nat) (h : k < l.length) (hn : NameTo l k) (hc : isLow l[k] = true ∨ (0 < k ∧ isDig l[k] = true)) : NameTo l (k + 1) := by
  refine ⟨fun _ => ?_, ?_⟩
  · rcases Nat.eq_zero_or_pos k with h0 | h0
    · subst h0
      rcases hc with hc | hc
      · rw [head_at l h]; exact hc
      · omega
    · exact hn.1 h0
  · rw [all_take_succ _ _ _ h, hn.2]
    rcases hc with hc | hc <;> simp [hc]
theorem isName_yes (l : List UInt8) (k : Nat) (hk : l.length ≤ k) (hn : NameTo l k) : IsName l = within l.length 1 8 := by
  unfold IsName
  rw [all_of_take _ _ _ hk hn.2]
  cases l with
  | nil => simp [within]
  | cons a r =>
    have := hn.1 (by simp at hk; omega)
    simp at this
    simp [this]
theorem isName_no (l : List UInt8) (k : Nat) (h : k < l.length) (h1 : isLow l[k] = false) (h2 : k = 0 ∨ isDig l[k] = false) : IsName l = false := by
  unfold IsName
  rcases h2 with h2 | h2
  · subst h2
    rw [head_at l h, h1]; simp
  · rw [all_false_of (fun c => isLow c || isDig c) l k h (by simp [h1, h2])]; simp
theorem isName_long (l : List UInt8) (h : l.length < 1 ∨ 8 < l.length) : IsName l = false := by
  unfold IsName within
  rcases h with h | h
  · have : ¬ (1 : Int) ≤ l.length := by omega
    simp [this]
  · have : ¬ (l.length : Int) ≤ 8 := by omega
    simp [this]
theorem isName_head (l : List UInt8) (h : 0 < l.length) (h1 : isLow l[0] = false) : IsName l = false := isName_no l 0 h h1 (Or.inl rfl)
theorem isDig_false {c : UInt8} (h : (c.toNat : Int) < 48 ∨ 57 < (c.toNat : Int)) : isDig c = false := by simp [isDig]; omega
theorem isDig_true {c : UInt8} (h : 48 ≤ (c.toNat : Int) ∧ (c.toNat : Int) ≤ 57) : isDig c = true := by simp [isDig]; omega
theorem isLow_false {c : UInt8} (h : (c.toNat : Int) < 97 ∨ 122 < (c.toNat : Int)) : isLow c = false := by simp [isLow]; omega
theorem isLow_true {c : UInt8} (h : 97 ≤ (c.toNat : Int) ∧ (c.toNat : Int) ≤ 122) : isLow c = true := by simp [isLow]; omega
theorem digits_one (c : UInt8) : IsDigits [c] = isDig c := by simp [IsDigits]

def isLetter (k : Int) (c : UInt8) : Bool := decide ((97 : Int) ≤ (c.toNat : Int)) && decide ((c.toNat : Int) ≤ 97 + k - 1)
def hasLetters (k : Int) (l : List UInt8) : Bool := l.all (isLetter k)
def WordOk (k : Int) (l : List UInt8) : Bool := within k 1 4 && (decide ((l.length : Int) ≤ 16) && hasLetters k l)

theorem isLetter_false {k : Int} {c : UInt8} (h : (c.toNat : Int) < 97 ∨ 97 + k - 1 < (c.toNat : Int)) : isLetter k c = false := by simp [isLetter]; omega
theorem isLetter_true {k : Int} {c : UInt8} (h : 97 ≤ (c.toNat : Int) ∧ (c.toNat : Int) ≤ 97 + k - 1) : isLetter k c = true := by simp [isLetter]; omega
theorem isLetter_within (k : Int) (c : UInt8) : within c.toNat 97 (97 + k - 1) = isLetter k c := rfl

theorem within_yes (k : Int) (h : 1 ≤ k ∧ k ≤ 4) : within k 1 4 = true := by simp [within]; omega
theorem within_no (k : Int) (h : ¬ (1 ≤ k ∧ k ≤ 4)) : within k 1 4 = false := by simp [within]; omega
theorem wordOk_short (k : Int) (l : List UInt8) (h : 1 ≤ k ∧ k ≤ 4) (hl : l.length ≤ 16) : WordOk k l = hasLetters k l := by
  unfold WordOk; rw [within_yes k h]; simp; omega
theorem wordOk_no (k : Int) (l : List UInt8) (h : ¬ (1 ≤ k ∧ k ≤ 4) ∨ 16 < l.length) : WordOk k l = false := by
  unfold WordOk
  rcases h with h | h
  · rw [within_no k h]; simp
  · have : ¬ (l.length : Int) ≤ 16 := by omega
    simp [this]

/-- The word with `by_` in place of some bytes; the empty one where that can't be. -/
def ReplaceAt (w : List UInt8) (p n : Int) (by_ : List UInt8) : List UInt8 × Bool :=
  if p < 0 ∨ n < 0 ∨ p > w.length ∨ n > w.length - p ∨ w.length - n + by_.length > 16 then ([], false)
  else (w.take p.toNat ++ (by_ ++ w.drop (p + n).toNat), true)

structure Rule where
  left : List UInt8
  right : List UInt8
deriving DecidableEq

def dotted (w : List UInt8) : List UInt8 := if w.isEmpty then [46] else w
theorem dotted_len (w : List UInt8) : (dotted w).length ≤ w.length + 1 := by unfold dotted; split <;> simp
def FormatRule (r : Rule) : List UInt8 := dotted r.left ++ (62 :: dotted r.right)

/-- What is left of a bound when a rule's letters are taken from it. -/
def szRule (r : Rule) (left : Int) : Int := if left - r.left.length < 0 then -1 else if left - r.left.length - r.right.length < 0 then -1 else left - r.left.length - r.right.length
theorem szRule_ok {r : Rule} {n : Int} (h : ¬ szRule r n < 0) : szRule r n = n - r.left.length - r.right.length ∧ (r.left.length : Int) + r.right.length ≤ n := by
  unfold szRule at *; split at h
  · omega
  · split at h
    · omega
    · rename_i h1 h2; rw [if_neg h1, if_neg h2]; exact ⟨rfl, by omega⟩

/-- The numbers up to k that are chosen, in ascending order. -/
def sel (p : Nat → Bool) (k : Nat) : List Int := ((List.range k).filter p).map fun (i : Nat) => (i : Int)
theorem sel_zero (p : Nat → Bool) : sel p 0 = [] := rfl
theorem sel_yes {p : Nat → Bool} {k : Nat} (h : p k = true) : sel p (k + 1) = sel p k ++ [(k : Int)] := by simp [sel, List.range_succ, h]
theorem sel_no {p : Nat → Bool} {k : Nat} (h : p k = false) : sel p (k + 1) = sel p k := by simp [sel, List.range_succ, h]
theorem sel_len (p : Nat → Bool) (k : Nat) : (sel p k).length ≤ k := by
  unfold sel; rw [List.length_map]; exact Nat.le_trans (List.length_filter_le _ _) (by simp)
theorem sel_more {p : Nat → Bool} {k : Nat} : ∀ (m : Nat), k ≤ m → (∀ j, k ≤ j → j < m → p j = false) → sel p m = sel p k
  | 0, hk, _ => by obtain rfl : k = 0 := by omega
                   rfl
  | m + 1, hk, h => by
    by_cases he : k = m + 1
    · rw [he]
    · rw [sel_no (h m (by omega) (by omega))]
      exact sel_more m (by omega) fun j h1 h2 => h j h1 (by omega)

def pre (part l : List UInt8) : Bool := decide (l.take part.length = part)
theorem pre_short {part l : List UInt8} (h : l.length < part.length) : pre part l = false := by
  refine decide_eq_false fun e => ?_
  have := congrArg List.length e
  rw [List.length_take] at this
  omega
def PlacesOf (w part : List UInt8) : List Int := if part = [] then [] else sel (fun i => pre part (w.drop i)) w.length
def overlapAt (u v : List UInt8) (n : Nat) : Bool := decide (0 < n) && decide (u.drop (u.length - n) = v.take n)
def OverlapsOf (u v : List UInt8) : List Int := sel (overlapAt u v) (min u.length v.length)

/-- The order of words: by length, then bytewise. -/
def IsLess (u v : List UInt8) : Bool := decide (u.length < v.length) || (decide (u.length = v.length) && Op.bytesLess u v)
def cmpB (u v : List UInt8) : Int := if Op.bytesLess u v = true then -1 else if u = v then 0 else 1
def cmpI (a b : Int) : Int := if a < b then -1 else if b < a then 1 else 0
def orI (x y : Int) : Int := if x = 0 then y else x
def cmpW (u v : List UInt8) : Int := orI (cmpI u.length v.length) (cmpB u v)
theorem less_cmp (u v : List UInt8) : decide (cmpW u v < 0) = IsLess u v := by
  unfold cmpW orI cmpI cmpB IsLess
  by_cases h1 : u.length < v.length
  · have : (u.length : Int) < v.length := by omega
    simp [this, h1]
  · by_cases h2 : v.length < u.length
    · have h3 : ¬ (u.length : Int) < v.length := by omega
      have h4 : (v.length : Int) < u.length := by omega
      have h5 : ¬ u.length = v.length := by omega
      simp [h3, h4, h5, h1]
    · have h5 : u.length = v.length := by omega
      simp [h5]
      by_cases h6 : Op.bytesLess u v = true
      · simp [h6]
      · simp [h6]
        split <;> omega

/-- What has been split off behind k bytes, and where the next part begins. -/
def splitTo (s by_ : List UInt8) : Nat → List (List UInt8) × Nat
  | 0 => ([], 0)
  | k + 1 => if by_.contains (s.getD k 0) then ((splitTo s by_ k).1 ++ [(s.drop (splitTo s by_ k).2).take (k - (splitTo s by_ k).2)], k + 1) else splitTo s by_ k
def SplitAny (s by_ : List UInt8) : List (List UInt8) := (splitTo s by_ s.length).1 ++ [s.drop (splitTo s by_ s.length).2]
theorem splitTo_le (s by_ : List UInt8) : ∀ k, (splitTo s by_ k).2 ≤ k ∧ (splitTo s by_ k).1.length ≤ k
  | 0 => by simp [splitTo]
  | k + 1 => by
    have := splitTo_le s by_ k
    rw [splitTo]
    split
    · simp; omega
    · omega
theorem splitTo_yes {s by_ : List UInt8} {k : Nat} (h : k < s.length) (hc : by_.contains s[k] = true) : splitTo s by_ (k + 1) = ((splitTo s by_ k).1 ++ [(s.drop (splitTo s by_ k).2).take (k - (splitTo s by_ k).2)], k + 1) := by
  rw [splitTo, if_pos (by rw [List.getD_eq_getElem?_getD, List.getElem?_eq_getElem h]; exact hc)]
theorem splitTo_no {s by_ : List UInt8} {k : Nat} (h : k < s.length) (hc : by_.contains s[k] = false) : splitTo s by_ (k + 1) = splitTo s by_ k := by
  rw [splitTo, if_neg (by rw [List.getD_eq_getElem?_getD, List.getElem?_eq_getElem h]; simp only [Option.getD_some]; rw [hc]; simp)]
theorem SplitAny_len (s by_ : List UInt8) : (SplitAny s by_).length ≤ s.length + 1 := by
  have := (splitTo_le s by_ s.length).2
  simp [SplitAny]; omega

def letter (x : Nat) : UInt8 := UInt8.ofNat (97 + x)
/-- The words of a list with each letter added, in order. -/
def longer (k : Nat) (ws : List (List UInt8)) : List (List UInt8) := ws.flatMap fun w => (List.range k).map fun x => w ++ [letter x]
theorem longer_len (k : Nat) (ws : List (List UInt8)) : (longer k ws).length = ws.length * k := by
  induction ws with
  | nil => simp [longer]
  | cons a r ih =>
    have h : longer k (a :: r) = ((List.range k).map fun x => a ++ [letter x]) ++ longer k r := by simp [longer]
    rw [h, List.length_append, ih, List.length_map, List.length_range, List.length_cons, Nat.succ_mul]
    omega
def wordsIter (k : Nat) : Nat → Option (List (List UInt8))
  | 0 => some [[]]
  | n + 1 => match wordsIter k n with
    | none => none
    | some out => if out.length * k > 256 then none else some (longer k out)
theorem wordsIter_none {k r : Nat} (h : wordsIter k r = none) : ∀ m, r ≤ m → wordsIter k m = none
  | 0, hm => by obtain rfl : r = 0 := by omega
                exact h
  | m + 1, hm => by
    by_cases he : r = m + 1
    · rw [← he]; exact h
    · rw [wordsIter, wordsIter_none h m (by omega)]
theorem wordsIter_step {k r : Nat} {ws : List (List UInt8)} (h : wordsIter k r = some ws) (hl : ws.length * k ≤ 256) : wordsIter k (r + 1) = some (longer k ws) := by
  rw [wordsIter, h]; simp only; rw [if_neg (by omega)]
theorem wordsIter_stop {k r : Nat} {ws : List (List UInt8)} (h : wordsIter k r = some ws) (hl : 256 < ws.length * k) : wordsIter k (r + 1) = none := by
  rw [wordsIter, h]; simp only; rw [if_pos (by omega)]
theorem wordsIter_len (k : Nat) : ∀ (r : Nat) (ws : List (List UInt8)), wordsIter k r = some ws → ws.length ≤ 256 ∧ ∀ l ∈ ws, l.length ≤ r
  | 0, ws, h => by
    rw [wordsIter] at h
    injection h with h
    subst h
    simp
  | r + 1, ws, h => by
    rw [wordsIter] at h
    cases hr : wordsIter k r with
    | none => rw [hr] at h; cases h
    | some out =>
      rw [hr] at h
      simp only at h
      split at h
      · cases h
      · injection h with h
        subst h
        obtain ⟨_, h2⟩ := wordsIter_len k r out hr
        refine ⟨by rw [longer_len]; omega, fun l hl => ?_⟩
        simp only [longer, List.mem_flatMap, List.mem_map] at hl
        obtain ⟨a, ha, x, _, rfl⟩ := hl
        have := h2 a ha
        simp; omega
def WordsOf (k n : Int) : List (List UInt8) × Bool :=
  if within k 1 4 && within n 0 256 then match wordsIter k.toNat n.toNat with | none => ([], false) | some l => (l, true) else ([], false)
theorem wordsOf_no {k n : Int} (h : ¬ (1 ≤ k ∧ k ≤ 4) ∨ ¬ (0 ≤ n ∧ n ≤ 256)) : WordsOf k n = ([], false) := by
  unfold WordsOf
  rw [if_neg]
  unfold within
  rcases h with h | h <;> simp <;> omega
theorem wordsOf_in {k n : Nat} (h1 : 1 ≤ k ∧ k ≤ 4) (h2 : n ≤ 256) : WordsOf k n = match wordsIter k n with | none => ([], false) | some l => (l, true) := by
  unfold WordsOf
  rw [if_pos (by unfold within; simp; omega)]
  rfl
theorem wordsOf_none {k n : Nat} (h1 : 1 ≤ k ∧ k ≤ 4) (h2 : n ≤ 256) (h : wordsIter k n = none) : WordsOf k n = ([], false) := by rw [wordsOf_in h1 h2, h]
theorem wordsOf_some {k n : Nat} {ws : List (List UInt8)} (h1 : 1 ≤ k ∧ k ≤ 4) (h2 : n ≤ 256) (h : wordsIter k n = some ws) : WordsOf k n = (ws, true) := by rw [wordsOf_in h1 h2, h]
theorem WordsOf_len (k n : Int) : (WordsOf k n).1.length ≤ 256 := by
  unfold WordsOf
  split
  · split
    · simp
    · rename_i l hl; exact (wordsIter_len _ _ _ hl).1
  · simp

end Go.Proofs.Ytlohpphmamapeaa.M
