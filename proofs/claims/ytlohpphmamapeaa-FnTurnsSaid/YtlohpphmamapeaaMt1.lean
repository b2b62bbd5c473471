/-
  Contracts and plain laws for the functions of this seat (texts joined: Base Model Mem Push Own EqC Cells Part Frame Open Open2 RecStep ModRule ModStep WordC WordOk RuleC Less ToB Side Sys OkC OkC2 Places Steps First Apply).
  Conditions: each text says its own.
-/
import Derived.Test.YtlohpphmamapeaaProg
import Derived.WalkKit
import Derived.WalkSpells
import Derived.WalkLawsBesides
import Derived.Deep.QuietTactic
import Derived.BigQuiet
import Derived.Lib.Hide
import Derived.Below
import Derived.Laws.OwnMore
import Derived.OwnWalk
import Derived.Test.YtlohpphmamapeaaRows
import Derived.ProofKit
import Derived.OpenShut
import Derived.Lib.SmallJoins
import Derived.Deep.Slices
import Derived.Deep.Fields
import Derived.Deep.RegionHeld3

/-
  Small facts that every walk of this seat uses: bytes of a string that is given by a list.
  Conditions: none; this text names no law.
-/
namespace Go.Proofs.Ytlohpphmamapeaa
open Go.RowKit
set_option linter.unusedVariables false

/-- A string's byte, the string given by its list. -/
theorem byteAt (l : List UInt8) (k : Nat) (h : k < (ByteArray.mk l.toArray).size) : (ByteArray.mk l.toArray)[k]'h = l[k]'(by simpa [ByteArray.size] using h) := rfl
attribute [go_sem] byteAt

theorem bytes_add (a b : List UInt8) : ByteArray.mk a.toArray ++ ByteArray.mk b.toArray = ByteArray.mk (a ++ b).toArray := by
  apply ByteArray.ext; simp
theorem bytes_cut (l : List UInt8) (i j : Nat) : (ByteArray.mk l.toArray).extract i j = ByteArray.mk ((l.drop i).take (j - i)).toArray := by
  apply ByteArray.ext; simp
theorem bytes_from (l : List UInt8) (i : Nat) : (ByteArray.mk l.toArray).extract i l.length = ByteArray.mk (l.drop i).toArray := by
  rw [bytes_cut, List.take_of_length_le (by simp)]
theorem bytes_to (l : List UInt8) (j : Nat) : (ByteArray.mk l.toArray).extract 0 j = ByteArray.mk (l.take j).toArray := by
  rw [bytes_cut]; simp
theorem bytes_one (l : List UInt8) (i : Nat) (h : i < l.length) : (ByteArray.mk l.toArray).extract i (i + 1) = ByteArray.mk [l[i]].toArray := by
  rw [bytes_cut, Nat.add_sub_cancel_left, List.drop_eq_getElem_cons h]; rfl
attribute [go_sem] bytes_add bytes_cut
attribute [go_sem high] bytes_from bytes_to bytes_one

theorem ret_int {k : IntKind} {a b : Int} (h : a = b) : Ending.returned (.int k a) = .returned (.int k b) := by rw [h]
theorem ret_bool {a b : Bool} (h : a = b) : Ending.returned (.bool a) = .returned (.bool b) := by rw [h]
theorem ret_str {a b : List UInt8} (h : a = b) : Ending.returned (.string ⟨a.toArray⟩) = .returned (.string ⟨b.toArray⟩) := by rw [h]

theorem u8_lt (c : UInt8) : (c.toNat : Int) < 256 := by have := c.toNat_lt; omega

theorem cell_set_ne {w : World} {b o b' o' : Nat} (u : Value) (h : b ≠ b' ∨ o ≠ o') : (w.setCell ⟨b, o, none⟩ u).cell? ⟨b', o', none⟩ = w.cell? ⟨b', o', none⟩ :=
  World.cell?_setCell_other w _ _ u (by intro e; injection e; omega)
theorem cell_set_eq {w : World} {b o : Nat} {u0 : Value} (u : Value) (h : w.cell? ⟨b, o, none⟩ = some u0) : (w.setCell ⟨b, o, none⟩ u).cell? ⟨b, o, none⟩ = some u :=
  World.cell?_setCell_same w _ u h

theorem below_drewN {B : Nat} {a w : World} (h : Below B a w) (n : Nat) : Below B a (w.drewN n) := ⟨h.os, h.tape, h.output, h.size, h.block⟩

section
variable {P : Program} {f : FuncId} {args : Array Value} {w : World} {v : Value}
/-- A contract that states 'w = w'', handed to a quiet region. -/
theorem quiet1 (h : Calls P f args w fun e w' => e = .returned v ∧ w = w') : Calls P f args w fun e w' => e = .returned v ∧ w' = w :=
  h.mono fun _ _ ⟨he, hw⟩ => ⟨he, hw.symm⟩
theorem quietD {n : Nat} (h : Calls P f args (w.drewN n) fun e w' => e = .returned v ∧ ∃ m, w' = (w.drewN n).drewN m) : Calls P f args (w.drewN n) fun e w' => e = .returned v ∧ ∃ m, w' = w.drewN m :=
  h.mono fun _ _ ⟨he, m, hm⟩ => ⟨he, n + m, by rw [hm, World.drewN_drewN]⟩
theorem quietN {n : Nat} (h : Calls P f args (w.drewN n) fun e w' => e = .returned v ∧ w.drewN n = w') : Calls P f args (w.drewN n) fun e w' => e = .returned v ∧ ∃ m, w' = w.drewN m :=
  h.mono fun _ _ ⟨he, hw⟩ => ⟨he, n, hw.symm⟩
end

theorem below_then {a b c : World} (h : Below a.heap.size a b) (k : Below b.heap.size b c) : Below a.heap.size a c := h.trans (k.mono h.size)
theorem below_drew1 {w w' : World} (hb : Below w.drew.heap.size w.drew w') : Below w.heap.size w w' := ((Below.refl _ _).drew).trans hb
theorem wrap_nat {q : Nat} (h : q ≤ 9223372036854775807) : IntKind.i64.wrap (q : Int) = (q : Int) := IntWalk.i64_in _ (by omega)
/-- What lay there before a call is there behind it. -/
theorem bcell {W w1 : World} (hb : Below W.heap.size W w1) : (∀ b o, b < W.heap.size → w1.cell? ⟨b, o, none⟩ = W.cell? ⟨b, o, none⟩) ∧ (∀ b o, b < W.heap.size → w1.frozen? ⟨b, o, none⟩ = W.frozen? ⟨b, o, none⟩) :=
  ⟨fun b o h => hb.cell (p := ⟨b, o, none⟩) h, fun b o h => hb.frozen (p := ⟨b, o, none⟩) h⟩

/-- Where a byte lies among digits and small letters. -/
theorem byteClass (c : UInt8) : ((0 : Int) ≤ c.toNat ∧ (c.toNat : Int) < 48) ∨ ((48 : Int) ≤ c.toNat ∧ (c.toNat : Int) ≤ 57) ∨ ((57 : Int) < c.toNat ∧ (c.toNat : Int) < 97) ∨ ((97 : Int) ≤ c.toNat ∧ (c.toNat : Int) ≤ 122) ∨ ((122 : Int) < c.toNat ∧ (c.toNat : Int) < 256) := by
  have := u8_lt c; omega

end Go.Proofs.Ytlohpphmamapeaa
/-
  What the functions compute, in plain Lean: words.
  Conditions: none; this text names no law and no program.
-/
namespace Go.Proofs.Ytlohpphmamapeaa.M

/-- All elements so far have the property: the step of a loop that searches for the first one that lacks it. -/
theorem all_take_succ {α : Type} (p : α → Bool) (l : List α) (k : Nat) (h : k < l.length) : (l.take (k + 1)).all p = ((l.take k).all p && p l[k]) := by
  rw [List.take_succ_eq_append_getElem h, List.all_append]; simp
theorem all_of_take {α : Type} (p : α → Bool) (l : List α) (k : Nat) (hk : l.length ≤ k) (h : (l.take k).all p = true) : l.all p = true := by
  rwa [List.take_of_length_le hk] at h
theorem all_false_of {α : Type} (p : α → Bool) (l : List α) (k : Nat) (h : k < l.length) (hp : p l[k] = false) : l.all p = false := by
  rw [List.all_eq_false]; exact ⟨l[k], List.getElem_mem h, by simp [hp]⟩

def within (n lo hi : Int) : Bool := decide (lo ≤ n) && decide (n ≤ hi)

def isDig (c : UInt8) : Bool := decide ((48 : Int) ≤ (c.toNat : Int)) && decide ((c.toNat : Int) ≤ 57)
def isLow (c : UInt8) : Bool := decide ((97 : Int) ≤ (c.toNat : Int)) && decide ((c.toNat : Int) ≤ 122)
def IsDigits (l : List UInt8) : Bool := !l.isEmpty && l.all isDig
def IsName (l : List UInt8) : Bool := within l.length 1 8 && isLow (l.headD 0) && l.all fun c => isLow c || isDig c

/-- How far the search through a name has come without finding a fault. -/
def NameTo (l : List UInt8) (k : Nat) : Prop := (0 < k → isLow (l.headD 0) = true) ∧ (l.take k).all (fun c => isLow c || isDig c) = true
theorem nameTo_zero (l : List UInt8) : NameTo l 0 := ⟨fun h => absurd h (by omega), by simp⟩
theorem head_at (l : List UInt8) (h : 0 < l.length) : l.headD 0 = l[0] := by cases l with | nil => simp at h | cons a r => rfl
theorem nameTo_succ (l : List UInt8) (k : Nat) (h : k < l.length) (hn : NameTo l k) (hc : isLow l[k] = true ∨ (0 < k ∧ isDig l[k] = true)) : NameTo l (k + 1) := by
  refine ⟨fun _ => ?_, ?_⟩
  · rcases Nat.eq_zero_or_pos k with h0 | h0
    · subst h0
      rcases hc with hc | hc
      · rw [head_at l h]; exact hc
      · omega
    · exact hn.1 h0
  · rw [all_take_succ _ _ _ h, hn.2]
    rcases hc with hc | hc <;> simp [hc]
theorem isName_yes (l : List UInt8) (k : Nat) (hk : l.length ≤ k) (hn : NameTo l k) : IsName l = within l.length 1 8 := by
  unfold IsName
  rw [all_of_take _ _ _ hk hn.2]
  cases l with
  | nil => simp [within]
  | cons a r =>
    have := hn.1 (by simp at hk; omega)
    simp at this
    simp [this]
theorem isName_no (l : List UInt8) (k : Nat) (h : k < l.length) (h1 : isLow l[k] = false) (h2 : k = 0 ∨ isDig l[k] = false) : IsName l = false := by
  unfold IsName
  rcases h2 with h2 | h2
  · subst h2
    rw [head_at l h, h1]; simp
  · rw [all_false_of (fun c => isLow c || isDig c) l k h (by simp [h1, h2])]; simp
theorem isName_long (l : List UInt8) (h : l.length < 1 ∨ 8 < l.length) : IsName l = false := by
  unfold IsName within
  rcases h with h | h
  · have : ¬ (1 : Int) ≤ l.length := by omega
    simp [this]
  · have : ¬ (l.length : Int) ≤ 8 := by omega
    simp [this]
theorem isName_head (l : List UInt8) (h : 0 < l.length) (h1 : isLow l[0] = false) : IsName l = false := isName_no l 0 h h1 (Or.inl rfl)
theorem isDig_false {c : UInt8} (h : (c.toNat : Int) < 48 ∨ 57 < (c.toNat : Int)) : isDig c = false := by simp [isDig]; omega
theorem isDig_true {c : UInt8} (h : 48 ≤ (c.toNat : Int) ∧ (c.toNat : Int) ≤ 57) : isDig c = true := by simp [isDig]; omega
theorem isLow_false {c : UInt8} (h : (c.toNat : Int) < 97 ∨ 122 < (c.toNat : Int)) : isLow c = false := by simp [isLow]; omega
theorem isLow_true {c : UInt8} (h : 97 ≤ (c.toNat : Int) ∧ (c.toNat : Int) ≤ 122) : isLow c = true := by simp [isLow]; omega
theorem digits_one (c : UInt8) : IsDigits [c] = isDig c := by simp [IsDigits]

def isLetter (k : Int) (c : UInt8) : Bool := decide ((97 : Int) ≤ (c.toNat : Int)) && decide ((c.toNat : Int) ≤ 97 + k - 1)
def hasLetters (k : Int) (l : List UInt8) : Bool := l.all (isLetter k)
def WordOk (k : Int) (l : List UInt8) : Bool := within k 1 4 && (decide ((l.length : Int) ≤ 16) && hasLetters k l)

theorem isLetter_false {k : Int} {c : UInt8} (h : (c.toNat : Int) < 97 ∨ 97 + k - 1 < (c.toNat : Int)) : isLetter k c = false := by simp [isLetter]; omega
theorem isLetter_true {k : Int} {c : UInt8} (h : 97 ≤ (c.toNat : Int) ∧ (c.toNat : Int) ≤ 97 + k - 1) : isLetter k c = true := by simp [isLetter]; omega
theorem isLetter_within (k : Int) (c : UInt8) : within c.toNat 97 (97 + k - 1) = isLetter k c := rfl

theorem within_yes (k : Int) (h : 1 ≤ k ∧ k ≤ 4) : within k 1 4 = true := by simp [within]; omega
theorem within_no (k : Int) (h : ¬ (1 ≤ k ∧ k ≤ 4)) : within k 1 4 = false := by simp [within]; omega
theorem wordOk_short (k : Int) (l : List UInt8) (h : 1 ≤ k ∧ k ≤ 4) (hl : l.length ≤ 16) : WordOk k l = hasLetters k l := by
  unfold WordOk; rw [within_yes k h]; simp; omega
theorem wordOk_no (k : Int) (l : List UInt8) (h : ¬ (1 ≤ k ∧ k ≤ 4) ∨ 16 < l.length) : WordOk k l = false := by
  unfold WordOk
  rcases h with h | h
  · rw [within_no k h]; simp
  · have : ¬ (l.length : Int) ≤ 16 := by omega
    simp [this]

/-- The word with `by_` in place of some bytes; the empty one where that can't be. -/
def ReplaceAt (w : List UInt8) (p n : Int) (by_ : List UInt8) : List UInt8 × Bool :=
  if p < 0 ∨ n < 0 ∨ p > w.length ∨ n > w.length - p ∨ w.length - n + by_.length > 16 then ([], false)
  else (w.take p.toNat ++ (by_ ++ w.drop (p + n).toNat), true)

structure Rule where
  left : List UInt8
  right : List UInt8
deriving DecidableEq

def dotted (w : List UInt8) : List UInt8 := if w.isEmpty then [46] else w
theorem dotted_len (w : List UInt8) : (dotted w).length ≤ w.length + 1 := by unfold dotted; split <;> simp
def FormatRule (r : Rule) : List UInt8 := dotted r.left ++ (62 :: dotted r.right)

/-- What is left of a bound when a rule's letters are taken from it. -/
def szRule (r : Rule) (left : Int) : Int := if left - r.left.length < 0 then -1 else if left - r.left.length - r.right.length < 0 then -1 else left - r.left.length - r.right.length
theorem szRule_ok {r : Rule} {n : Int} (h : ¬ szRule r n < 0) : szRule r n = n - r.left.length - r.right.length ∧ (r.left.length : Int) + r.right.length ≤ n := by
  unfold szRule at *; split at h
  · omega
  · split at h
    · omega
    · rename_i h1 h2; rw [if_neg h1, if_neg h2]; exact ⟨rfl, by omega⟩

/-- The numbers up to k that are chosen, in ascending order. -/
def sel (p : Nat → Bool) (k : Nat) : List Int := ((List.range k).filter p).map fun (i : Nat) => (i : Int)
theorem sel_zero (p : Nat → Bool) : sel p 0 = [] := rfl
theorem sel_yes {p : Nat → Bool} {k : Nat} (h : p k = true) : sel p (k + 1) = sel p k ++ [(k : Int)] := by simp [sel, List.range_succ, h]
theorem sel_no {p : Nat → Bool} {k : Nat} (h : p k = false) : sel p (k + 1) = sel p k := by simp [sel, List.range_succ, h]
theorem sel_len (p : Nat → Bool) (k : Nat) : (sel p k).length ≤ k := by
  unfold sel; rw [List.length_map]; exact Nat.le_trans (List.length_filter_le _ _) (by simp)
theorem sel_more {p : Nat → Bool} {k : Nat} : ∀ (m : Nat), k ≤ m → (∀ j, k ≤ j → j < m → p j = false) → sel p m = sel p k
  | 0, hk, _ => by obtain rfl : k = 0 := by omega
                   rfl
  | m + 1, hk, h => by
    by_cases he : k = m + 1
    · rw [he]
    · rw [sel_no (h m (by omega) (by omega))]
      exact sel_more m (by omega) fun j h1 h2 => h j h1 (by omega)

def pre (part l : List UInt8) : Bool := decide (l.take part.length = part)
theorem pre_short {part l : List UInt8} (h : l.length < part.length) : pre part l = false := by
  refine decide_eq_false fun e => ?_
  have := congrArg List.length e
  rw [List.length_take] at this
  omega
def PlacesOf (w part : List UInt8) : List Int := if part = [] then [] else sel (fun i => pre part (w.drop i)) w.length
def overlapAt (u v : List UInt8) (n : Nat) : Bool := decide (0 < n) && decide (u.drop (u.length - n) = v.take n)
def OverlapsOf (u v : List UInt8) : List Int := sel (overlapAt u v) (min u.length v.length)

/-- The order of words: by length, then bytewise. -/
def IsLess (u v : List UInt8) : Bool := decide (u.length < v.length) || (decide (u.length = v.length) && Op.bytesLess u v)
def cmpB (u v : List UInt8) : Int := if Op.bytesLess u v = true then -1 else if u = v then 0 else 1
def cmpI (a b : Int) : Int := if a < b then -1 else if b < a then 1 else 0
def orI (x y : Int) : Int := if x = 0 then y else x
def cmpW (u v : List UInt8) : Int := orI (cmpI u.length v.length) (cmpB u v)
theorem less_cmp (u v : List UInt8) : decide (cmpW u v < 0) = IsLess u v := by
  unfold cmpW orI cmpI cmpB IsLess
  by_cases h1 : u.length < v.length
  · have : (u.length : Int) < v.length := by omega
    simp [this, h1]
  · by_cases h2 : v.length < u.length
    · have h3 : ¬ (u.length : Int) < v.length := by omega
      have h4 : (v.length : Int) < u.length := by omega
      have h5 : ¬ u.length = v.length := by omega
      simp [h3, h4, h5, h1]
    · have h5 : u.length = v.length := by omega
      simp [h5]
      by_cases h6 : Op.bytesLess u v = true
      · simp [h6]
      · simp [h6]
        split <;> omega

/-- What has been split off behind k bytes, and where the next part begins. -/
def splitTo (s by_ : List UInt8) : Nat → List (List UInt8) × Nat
  | 0 => ([], 0)
  | k + 1 => if by_.contains (s.getD k 0) then ((splitTo s by_ k).1 ++ [(s.drop (splitTo s by_ k).2).take (k - (splitTo s by_ k).2)], k + 1) else splitTo s by_ k
def SplitAny (s by_ : List UInt8) : List (List UInt8) := (splitTo s by_ s.length).1 ++ [s.drop (splitTo s by_ s.length).2]
theorem splitTo_le (s by_ : List UInt8) : ∀ k, (splitTo s by_ k).2 ≤ k ∧ (splitTo s by_ k).1.length ≤ k
  | 0 => by simp [splitTo]
  | k + 1 => by
    have := splitTo_le s by_ k
    rw [splitTo]
    split
    · simp; omega
    · omega
theorem splitTo_yes {s by_ : List UInt8} {k : Nat} (h : k < s.length) (hc : by_.contains s[k] = true) : splitTo s by_ (k + 1) = ((splitTo s by_ k).1 ++ [(s.drop (splitTo s by_ k).2).take (k - (splitTo s by_ k).2)], k + 1) := by
  rw [splitTo, if_pos (by rw [List.getD_eq_getElem?_getD, List.getElem?_eq_getElem h]; exact hc)]
theorem splitTo_no {s by_ : List UInt8} {k : Nat} (h : k < s.length) (hc : by_.contains s[k] = false) : splitTo s by_ (k + 1) = splitTo s by_ k := by
  rw [splitTo, if_neg (by rw [List.getD_eq_getElem?_getD, List.getElem?_eq_getElem h]; simp only [Option.getD_some]; rw [hc]; simp)]
theorem SplitAny_len (s by_ : List UInt8) : (SplitAny s by_).length ≤ s.length + 1 := by
  have := (splitTo_le s by_ s.length).2
  simp [SplitAny]; omega

def letter (x : Nat) : UInt8 := UInt8.ofNat (97 + x)
/-- The words of a list with each letter added, in order. -/
def longer (k : Nat) (ws : List (List UInt8)) : List (List UInt8) := ws.flatMap fun w => (List.range k).map fun x => w ++ [letter x]
theorem longer_len (k : Nat) (ws : List (List UInt8)) : (longer k ws).length = ws.length * k := by
  induction ws with
  | nil => simp [longer]
  | cons a r ih =>
    have h : longer k (a :: r) = ((List.range k).map fun x => a ++ [letter x]) ++ longer k r := by simp [longer]
    rw [h, List.length_append, ih, List.length_map, List.length_range, List.length_cons, Nat.succ_mul]
    omega
def wordsIter (k : Nat) : Nat → Option (List (List UInt8))
  | 0 => some [[]]
  | n + 1 => match wordsIter k n with
    | none => none
    | some out => if out.length * k > 256 then none else some (longer k out)
theorem wordsIter_none {k r : Nat} (h : wordsIter k r = none) : ∀ m, r ≤ m → wordsIter k m = none
  | 0, hm => by obtain rfl : r = 0 := by omega
                exact h
  | m + 1, hm => by
    by_cases he : r = m + 1
    · rw [← he]; exact h
    · rw [wordsIter, wordsIter_none h m (by omega)]
theorem wordsIter_step {k r : Nat} {ws : List (List UInt8)} (h : wordsIter k r = some ws) (hl : ws.length * k ≤ 256) : wordsIter k (r + 1) = some (longer k ws) := by
  rw [wordsIter, h]; simp only; rw [if_neg (by omega)]
theorem wordsIter_stop {k r : Nat} {ws : List (List UInt8)} (h : wordsIter k r = some ws) (hl : 256 < ws.length * k) : wordsIter k (r + 1) = none := by
  rw [wordsIter, h]; simp only; rw [if_pos (by omega)]
theorem wordsIter_len (k : Nat) : ∀ (r : Nat) (ws : List (List UInt8)), wordsIter k r = some ws → ws.length ≤ 256 ∧ ∀ l ∈ ws, l.length ≤ r
  | 0, ws, h => by
    rw [wordsIter] at h
    injection h with h
    subst h
    simp
  | r + 1, ws, h => by
    rw [wordsIter] at h
    cases hr : wordsIter k r with
    | none => rw [hr] at h; cases h
    | some out =>
      rw [hr] at h
      simp only at h
      split at h
      · cases h
      · injection h with h
        subst h
        obtain ⟨_, h2⟩ := wordsIter_len k r out hr
        refine ⟨by rw [longer_len]; omega, fun l hl => ?_⟩
        simp only [longer, List.mem_flatMap, List.mem_map] at hl
        obtain ⟨a, ha, x, _, rfl⟩ := hl
        have := h2 a ha
        simp; omega
def WordsOf (k n : Int) : List (List UInt8) × Bool :=
  if within k 1 4 && within n 0 256 then match wordsIter k.toNat n.toNat with | none => ([], false) | some l => (l, true) else ([], false)
theorem wordsOf_no {k n : Int} (h : ¬ (1 ≤ k ∧ k ≤ 4) ∨ ¬ (0 ≤ n ∧ n ≤ 256)) : WordsOf k n = ([], false) := by
  unfold WordsOf
  rw [if_neg]
  unfold within
  rcases h with h | h <;> simp <;> omega
theorem wordsOf_in {k n : Nat} (h1 : 1 ≤ k ∧ k ≤ 4) (h2 : n ≤ 256) : WordsOf k n = match wordsIter k n with | none => ([], false) | some l => (l, true) := by
  unfold WordsOf
  rw [if_pos (by unfold within; simp; omega)]
  rfl
theorem wordsOf_none {k n : Nat} (h1 : 1 ≤ k ∧ k ≤ 4) (h2 : n ≤ 256) (h : wordsIter k n = none) : WordsOf k n = ([], false) := by rw [wordsOf_in h1 h2, h]
theorem wordsOf_some {k n : Nat} {ws : List (List UInt8)} (h1 : 1 ≤ k ∧ k ≤ 4) (h2 : n ≤ 256) (h : wordsIter k n = some ws) : WordsOf k n = (ws, true) := by rw [wordsOf_in h1 h2, h]
theorem WordsOf_len (k n : Int) : (WordsOf k n).1.length ≤ 256 := by
  unfold WordsOf
  split
  · split
    · simp
    · rename_i l hl; exact (wordsIter_len _ _ _ hl).1
  · simp

end Go.Proofs.Ytlohpphmamapeaa.M
/-
  Words for memory: a slice that reads as a list of cells, a slice of the call's own, and how both are kept.
  Conditions: none; this text names no law.
-/
namespace Go.Proofs.Ytlohpphmamapeaa
open Go.RowKit
set_option linter.unusedVariables false

/-- The slice with the address A and n elements of 'size' cells each holds the cells xs. -/
def Rd (w : World) (size : Nat) (A : Option Addr) (n : Nat) (xs : List Value) : Prop :=
  xs.length = n * size ∧ (0 < n → ∃ b o, A = some ⟨b, o, none⟩ ∧ ∀ j u, xs[j]? = some u → w.cell? ⟨b, o + j, none⟩ = some u)

section
variable {w w' : World} {size n : Nat} {A : Option Addr} {xs : List Value}
theorem Rd.none_ : Rd w size A 0 [] := ⟨by simp, fun h => absurd h (by omega)⟩
theorem Rd.lt (h : Rd w size A n xs) (hs : 0 < size) (hn : 0 < n) {ad : Addr} (ha : A = some ad) : ad.block < w.heap.size := by
  obtain ⟨b, o, e, hc⟩ := h.2 hn
  rw [ha] at e
  injection e with e
  subst e
  have hl : 0 < xs.length := by rw [h.1]; exact Nat.mul_pos hn hs
  exact World.block_lt_of_cell? w _ (hc 0 _ (List.getElem?_eq_getElem hl))
theorem Rd.keep (h : Rd w size A n xs) (hk : ∀ b o u, A.map (·.block) = some b → w.cell? ⟨b, o, none⟩ = some u → w'.cell? ⟨b, o, none⟩ = some u) : Rd w' size A n xs :=
  ⟨h.1, fun hn => by
    obtain ⟨b, o, e, hc⟩ := h.2 hn
    exact ⟨b, o, e, fun j u hu => hk b _ u (by rw [e]; rfl) (hc j u hu)⟩⟩
theorem Rd.below (h : Rd w size A n xs) (hb : Below w.heap.size w w') : Rd w' size A n xs :=
  h.keep fun b o u _ hu => (hb.cell (p := ⟨b, o, none⟩) (World.block_lt_of_cell? w _ hu)).trans hu
theorem Rd.grown (h : Rd w size A n xs) {row : Option Nat} (hg : w.grownBy w' row) (hne : 0 < n → ∀ ad, A = some ad → some ad.block ≠ row) : Rd w' size A n xs :=
  ⟨h.1, fun hn => by
    obtain ⟨b, o, e, hc⟩ := h.2 hn
    exact ⟨b, o, e, fun j u hu => hg.cell (a := ⟨b, o + j, none⟩) (hc j u hu) (hne hn ⟨b, o, none⟩ e)⟩⟩
theorem Rd.of_own {base : Nat} {e : TypeId} {c : Nat} (h : w.ownsRow base e size (.slice A n c) n xs) : Rd w size A n xs := by
  refine ⟨h.1, fun hn => ?_⟩
  rcases h.2 with ⟨_, h0⟩ | ⟨g, cap, cur, hv, _⟩
  · omega
  · injection hv with hA
    subst hA
    refine ⟨g, 0, rfl, fun j u hu => ?_⟩
    have := h.cells (g := g) rfl j u hu
    have ha : (⟨g, 0, none⟩ : Addr).add j = ⟨g, j, none⟩ := by unfold Addr.add; split <;> simp_all
    rw [ha] at this
    rw [Nat.zero_add]
    exact this
theorem cellKeep {w w' : World} {b o : Nat} {u : Value} (hb : Below w.heap.size w w') (h : w.cell? ⟨b, o, none⟩ = some u) : w'.cell? ⟨b, o, none⟩ = some u := (hb.cell (p := ⟨b, o, none⟩) (World.block_lt_of_cell? w _ h)).trans h
theorem Rd.ext {ys : List Value} (h : Rd w size A n xs) (h' : ys = xs) : Rd w size A n ys := h' ▸ h

theorem grown_of_below (hb : Below w.heap.size w w') (row : Option Nat) : w.grownBy w' row := ⟨hb.os, hb.tape, hb.output, hb.size, fun i hi _ => hb.block i hi⟩
theorem own_below {base : Nat} {e : TypeId} {v : Value} (h : w.ownsRow base e size v n xs) (hb : Below w.heap.size w w') : w'.ownsRow base e size v n xs :=
  h.kept (grown_of_below hb none) (by cases v.ownBlock <;> simp)
theorem below_of_grown {B : Nat} {row : Option Nat} (hg : w.grownBy w' row) (hB : B ≤ w.heap.size) (hr : ∀ k, row = some k → B ≤ k) : Below B w w' := (Below.refl B w).grown hg hB hr
/-- An own row that was made behind a moment is not the row that is written. -/
theorem own_ne {base : Nat} {e : TypeId} {v v' : Value} {w0 : World} {base' size' n' : Nat} {e' : TypeId} {xs' : List Value} (h : w.ownsRow base e size v n xs) (h' : w0.ownsRow base' e' size' v' n' xs') (hb : w0.heap.size ≤ base) : v.ownBlock = none ∨ v.ownBlock ≠ v'.ownBlock := by
  cases hv : v.ownBlock with
  | none => exact Or.inl rfl
  | some k =>
    refine Or.inr fun e => ?_
    have h1 := (h.lt k hv).1
    have h2 := (h'.lt k (e ▸ rfl)).2
    omega
theorem rd_ne {w0 : World} {base' size' n' : Nat} {e' : TypeId} {v' : Value} {xs' : List Value} (h : Rd w0 size A n xs) (hs : 0 < size) (h' : w.ownsRow base' e' size' v' n' xs') (hb : w0.heap.size ≤ base') : 0 < n → ∀ ad, A = some ad → some ad.block ≠ v'.ownBlock := by
  intro hn ad ha e
  have h1 := h.lt hs hn ha
  have h2 := (h'.lt ad.block e.symm).1
  omega
theorem own_base {base base' : Nat} {e : TypeId} {v : Value} (h : w.ownsRow base e size v n xs) (hb : base' ≤ base) : w.ownsRow base' e size v n xs := by
  refine ⟨h.1, ?_⟩
  rcases h.2 with h2 | ⟨g, cap, cur, hv, hg, r⟩
  · exact Or.inl h2
  · exact Or.inr ⟨g, cap, cur, hv, by omega, r⟩
theorem own_slice {base : Nat} {e : TypeId} {v : Value} (h : w.ownsRow base e size v n xs) : ∃ A c, v = .slice A n c := by
  rcases h.2 with ⟨hv, h0⟩ | ⟨g, cap, cur, hv, _⟩
  · subst h0; exact ⟨none, 0, hv⟩
  · exact ⟨_, _, hv⟩
end

/-- The cells of a slice of integers, of strings, of rules, of steps, of pairs, of links. -/
def ints (zs : List Int) : List Value := zs.map (Value.int .i64)
def strs (ls : List (List UInt8)) : List Value := ls.map fun l => Value.string ⟨l.toArray⟩
theorem ints_len (zs : List Int) : (ints zs).length = zs.length := by simp [ints]
theorem strs_len (ls : List (List UInt8)) : (strs ls).length = ls.length := by simp [strs]
theorem ints_at {zs : List Int} {k : Nat} (h : k < zs.length) : (ints zs)[k]? = some (.int .i64 zs[k]) := by simp [ints, h]
theorem strs_at {ls : List (List UInt8)} {k : Nat} (h : k < ls.length) : (strs ls)[k]? = some (.string ⟨ls[k].toArray⟩) := by simp [strs, h]
theorem ints_add (a b : List Int) : ints (a ++ b) = ints a ++ ints b := by simp [ints]
theorem strs_add (a b : List (List UInt8)) : strs (a ++ b) = strs a ++ strs b := by simp [strs]

theorem Rd.intAt {w : World} {A : Option Addr} {n : Nat} {zs : List Int} (h : Rd w 1 A n (ints zs)) {k : Nat} (hk : k < n) :
    ∃ b o, A = some ⟨b, o, none⟩ ∧ ∃ hz : k < zs.length, w.cell? ⟨b, o + k, none⟩ = some (.int .i64 zs[k]) := by
  obtain ⟨b, o, e, hc⟩ := h.2 (by omega)
  have hl : k < zs.length := by have := h.1; rw [ints_len] at this; omega
  exact ⟨b, o, e, hl, hc k _ (ints_at hl)⟩
theorem Rd.strAt {w : World} {A : Option Addr} {n : Nat} {ls : List (List UInt8)} (h : Rd w 1 A n (strs ls)) {k : Nat} (hk : k < n) :
    ∃ b o, A = some ⟨b, o, none⟩ ∧ ∃ hz : k < ls.length, w.cell? ⟨b, o + k, none⟩ = some (.string ⟨ls[k].toArray⟩) := by
  obtain ⟨b, o, e, hc⟩ := h.2 (by omega)
  have hl : k < ls.length := by have := h.1; rw [strs_len] at this; omega
  exact ⟨b, o, e, hl, hc k _ (strs_at hl)⟩

end Go.Proofs.Ytlohpphmamapeaa
/-
  One element appended to a slice of the call's own: the law of a walk.
  Conditions: at most 2^40 elements of at most 64 bytes.
-/
namespace Go.Proofs.Ytlohpphmamapeaa
open Go.RowKit
set_option linter.unusedVariables false

/-- What the laws on append ask of a slice's type: its element's type, the cells and the bytes of an element. -/
structure SlT (P : Program) (t e : TypeId) (size : Nat) : Prop where
  und : P.underlying t = some (.slice e)
  info : ∃ i z, P.info? e = some i ∧ i.zero = some z ∧ i.size = size ∧ i.bytes ≤ 64 ∧ z.cells.size = size
  pos : 0 < size

section
variable {P : Program} {ops : Array Oper} {rest : List Oper} {o : Oper} {a : Act} {Q : Exit → Act → World → Prop} {w0 w : World}
theorem push_law (hgd : o.guard = none) (s x : Operand) {t : TypeId} (ho : o.op = .call { callee := .builtin .append, args := #[s, x], argTypes := #[t, t] }) {e : TypeId} {size : Nat} (T : SlT P t e size)
    {base : Nat} {A : Option Addr} {n c : Nat} {xs : List Value} (hs : a.eval s = .slice A n c) (hown : w.ownsRow base e size (.slice A n c) n xs) {us : List Value} {g : Nat} (hx : a.eval x = .slice (some ⟨g, 0, none⟩) 1 1)
    (hus : us.length = size) (h1 : ∀ u ∈ us, u.oneCell' = true) (hb : Below base w0 w) (hw0 : base = w0.heap.size) (hn : n < 1099511627776)
    (h : ∀ A' c' w', w'.ownsRow base e size (.slice A' (n + 1) c') (n + 1) (xs ++ us) → Below base w0 w' → wpList P ops Q rest (a.put o.dst (.slice A' (n + 1) c')) w') (hgw : g = w.heap.size := by first | rfl | simp) : wpList P ops Q (o :: rest) a (w.alloc (.cells us.toArray e)) := by
  subst hgw
  obtain ⟨i, z, hi, hz, hsz, hby, hzs⟩ := T.info
  have hbw : base ≤ w.heap.size := by rw [hw0]; exact hb.size
  refine wpList_append_own _ hgd s x t ho base e i z size i.bytes T.und hi hz hsz rfl hzs T.pos (.slice A n c) n xs hs (hown.alloc _) ⟨w.heap.size, 0, none⟩ 1 1 us hx (by simpa using hus) (fun j u hu => ?_) h1 (by simp only [maxLen]; omega) ?_ (by simp; omega) ?_
  · have ha : (⟨w.heap.size, 0, none⟩ : Addr).add j = ⟨w.heap.size, j, none⟩ := by unfold Addr.add; split <;> simp_all
    rw [ha, World.cell?_alloc_at _ _ _ _ rfl]
    simpa using hu
  · have : (n + 1) * i.bytes ≤ 1099511627776 * 64 := Nat.mul_le_mul (by omega) hby
    omega
  · intro v' w' hown' hg _
    obtain ⟨A', c', rfl⟩ := own_slice hown'
    refine h A' c' w' hown' ?_
    refine (hb.alloc hbw _).grown hg (by simp; omega) (fun k hk => ?_)
    exact (hown.lt k hk).1
theorem push_law_drew {m : Nat} (hgd : o.guard = none) (s x : Operand) {t : TypeId} (ho : o.op = .call { callee := .builtin .append, args := #[s, x], argTypes := #[t, t] }) {e : TypeId} {size : Nat} (T : SlT P t e size)
    {base : Nat} {A : Option Addr} {n c : Nat} {xs : List Value} (hs : a.eval s = .slice A n c) (hown : w.ownsRow base e size (.slice A n c) n xs) {us : List Value} {g : Nat} (hx : a.eval x = .slice (some ⟨g, 0, none⟩) 1 1)
    (hus : us.length = size) (h1 : ∀ u ∈ us, u.oneCell' = true) (hb : Below base w0 w) (hw0 : base = w0.heap.size) (hn : n < 1099511627776)
    (h : ∀ A' c' w', w'.ownsRow base e size (.slice A' (n + 1) c') (n + 1) (xs ++ us) → Below base w0 w' → wpList P ops Q rest (a.put o.dst (.slice A' (n + 1) c')) w') (hgw : g = w.heap.size := by first | rfl | simp) : wpList P ops Q (o :: rest) a ((w.alloc (.cells us.toArray e)).drewN m) :=
  push_law (w := w.drewN m) hgd s x ho T hs hown (us := us) hx hus h1 (below_drewN hb m) hw0 hn h hgw
end

/-- A call that returns a slice of its own: its cells; below the old heap nothing has turned. -/
def RetRow (e size n : Nat) (cs : List Value) (w : World) (x : Ending) (w' : World) : Prop :=
  ∃ A c, x = .returned (.slice A n c) ∧ w'.ownsRow w.heap.size e size (.slice A n c) n cs ∧ Below w.heap.size w w'

theorem sl_of {P : Program} {t e : TypeId} {size : Nat} (hu : P.underlying t = some (.slice e)) (hp : 0 < size) (h : (P.info? e).bind (fun i => i.zero.map fun z => (i.size, z.cells.size, decide (i.bytes ≤ 64))) = some (size, size, true)) : SlT P t e size := by
  refine ⟨hu, ?_, hp⟩
  cases hi : P.info? e with
  | none => rw [hi] at h; cases h
  | some i =>
    rw [hi] at h
    cases hz : i.zero with
    | none => simp [hz] at h
    | some z =>
      simp [hz] at h
      exact ⟨i, z, rfl, hz, h.1, h.2.2, h.2.1⟩
theorem slInt : SlT Try.prog 35 3 1 := sl_of Try.underlying35 (by decide) (by kernel_rfl)
theorem slString : SlT Try.prog 90 9 1 := sl_of Try.underlying90 (by decide) (by kernel_rfl)
theorem slRule : SlT Try.prog 26 84 2 := sl_of Try.underlying26 (by decide) (by kernel_rfl)
theorem slStep : SlT Try.prog 116 129 2 := sl_of Try.underlying116 (by decide) (by kernel_rfl)
theorem slPair : SlT Try.prog 126 131 5 := sl_of Try.underlying126 (by decide) (by kernel_rfl)

end Go.Proofs.Ytlohpphmamapeaa
/-
  A slice over memory that a call has made: what a marking may write, and what it leaves.
  Conditions: none; this text names no law.
-/
namespace Go.Proofs.Ytlohpphmamapeaa
open Go.RowKit
set_option linter.unusedVariables false

/-- The slice lies in a block from 'base' on, not frozen, and holds the cells xs. -/
def Own (w : World) (base size : Nat) (A : Option Addr) (n : Nat) (xs : List Value) : Prop :=
  xs.length = n * size ∧ (0 < n → ∃ g o cur E, A = some ⟨g, o, none⟩ ∧ base ≤ g ∧ w.heap[g]? = some (.cells cur E (0, 0)) ∧ o + n * size ≤ cur.size ∧ (cur.toList.drop o).take (n * size) = xs)
/-- The row that a marking writes. -/
def blk (A : Option Addr) (n : Nat) : Option Nat := if n = 0 then none else A.map (·.block)

section
variable {w w' : World} {base size n : Nat} {A : Option Addr} {xs : List Value}
theorem Own.of_row {e : TypeId} {c : Nat} (h : w.ownsRow base e size (.slice A n c) n xs) : Own w base size A n xs := by
  refine ⟨h.1, fun hn => ?_⟩
  rcases h.2 with ⟨_, h0⟩ | ⟨g, cap, cur, hv, hb, hg, hnc, _, hcs, ht⟩
  · omega
  · injection hv with hA
    refine ⟨g, 0, cur, e, hA, hb, hg, ?_, by simpa using ht⟩
    rw [hcs, Nat.zero_add]
    exact Nat.mul_le_mul_right size hnc
theorem Own.cells (h : Own w base size A n xs) (hn : 0 < n) : ∃ g o, A = some ⟨g, o, none⟩ ∧ base ≤ g ∧ g < w.heap.size ∧ (∀ j u, xs[j]? = some u → w.cell? ⟨g, o + j, none⟩ = some u) ∧ (∀ j, w.frozen? ⟨g, o + j, none⟩ = false) ∧
    ∀ j u, Own (w.setCell ⟨g, o + j, none⟩ u) base size A n (xs.set j u) ∧ w.grownBy (w.setCell ⟨g, o + j, none⟩ u) (some g) := by
  obtain ⟨g, o, cur, E, hA, hb, hg, hl, ht⟩ := h.2 hn
  refine ⟨g, o, hA, hb, (Array.getElem?_eq_some_iff.1 hg).1, fun j u hu => ?_, fun j => frozen_of_row w g _ cur E hg, fun j u => ⟨⟨by simpa using h.1, fun _ => ⟨g, o, cur.setIfInBounds (o + j) u, E, hA, hb, heap_setCell_same w g _ cur E u hg, by simpa using hl, ?_⟩⟩, ?_⟩⟩
  · rw [cell_of_row w g (o + j) cur E (0, 0) hg, ← Array.getElem?_toList]
    rw [← ht, List.getElem?_take] at hu
    split at hu
    · rwa [List.getElem?_drop] at hu
    · cases hu
  · rw [Array.toList_setIfInBounds, ← ht, List.drop_set, if_neg (by omega), Nat.add_sub_cancel_left, List.take_set]
  · exact ⟨rfl, rfl, rfl, by simp, fun k _ hk => heap_setCell_other w ⟨g, o + j, none⟩ k u (fun e => hk (by simp [e]))⟩
theorem Own.rd (h : Own w base size A n xs) : Rd w size A n xs :=
  ⟨h.1, fun hn => by
    obtain ⟨g, o, hA, _, _, hc, _⟩ := h.cells hn
    exact ⟨g, o, hA, hc⟩⟩
theorem blk_some {g : Nat} (h : blk A n = some g) : 0 < n ∧ ∃ ad, A = some ad ∧ ad.block = g := by
  unfold blk at h
  split at h
  · cases h
  · rename_i h0
    cases A with
    | none => cases h
    | some ad => exact ⟨by omega, ad, rfl, by simpa using h⟩
theorem Own.lt (h : Own w base size A n xs) : ∀ g, blk A n = some g → base ≤ g ∧ g < w.heap.size := by
  intro g hg
  obtain ⟨hn, ad, rfl, rfl⟩ := blk_some hg
  obtain ⟨g, o, hA, hb, hlt, _⟩ := h.cells hn
  injection hA with hA
  subst hA
  exact ⟨hb, hlt⟩
theorem Own.grown (h : Own w base size A n xs) {row : Option Nat} (hg : w.grownBy w' row) (hne : ∀ g, blk A n = some g → some g ≠ row) : Own w' base size A n xs :=
  ⟨h.1, fun hn => by
    obtain ⟨g, o, cur, E, hA, hb, hgg, hl, ht⟩ := h.2 hn
    refine ⟨g, o, cur, E, hA, hb, ?_, hl, ht⟩
    rw [hg.block g (Array.getElem?_eq_some_iff.1 hgg).1 (hne g (by unfold blk; rw [if_neg (by omega), hA]; rfl))]
    exact hgg⟩
theorem Own.below (h : Own w base size A n xs) (hb : Below w.heap.size w w') : Own w' base size A n xs :=
  h.grown (grown_of_below hb none) (by simp)
theorem Own.mono {base' : Nat} (h : Own w base size A n xs) (hb : base' ≤ base) : Own w base' size A n xs :=
  ⟨h.1, fun hn => by
    obtain ⟨g, o, cur, E, hA, hbb, r⟩ := h.2 hn
    exact ⟨g, o, cur, E, hA, by omega, r⟩⟩
/-- What is read was there before the marked slice was made. -/
theorem Rd.mark {w0 : World} {s n' b' s' : Nat} {A' : Option Addr} {xs' ys : List Value} (h : Rd w s A' n' xs') (hs : 0 < s) (h0 : Rd w0 s A' n' xs') (ho : Own w b' s' A n ys) (hb : w0.heap.size ≤ b') (hg : w.grownBy w' (blk A n)) : Rd w' s A' n' xs' := by
  refine h.grown hg fun hn ad ha e => ?_
  have h1 := h0.lt hs hn ha
  have h2 := (ho.lt ad.block e.symm).1
  omega
/-- Another slice of the call's own that was made behind the marked one. -/
theorem Own.mark {b' s' n' : Nat} {A' : Option Addr} {ys : List Value} {w0 : World} (h : Own w base size A n xs) (ho : Own w0 b' s' A' n' ys) (hb : w0.heap.size ≤ base) (hg : w.grownBy w' (blk A' n')) : Own w' base size A n xs := by
  refine h.grown hg fun g hgg e => ?_
  have h1 := (h.lt g hgg).1
  have h2 := (ho.lt g e.symm).2
  omega
end

theorem below_alloc1 {w w' : World} {o : Obj} (hb : Below (w.alloc o).heap.size (w.alloc o) w') : Below w.heap.size w w' :=
  ((Below.refl _ _).alloc (Nat.le_refl _) _).trans (hb.mono (by simp))
theorem below_alloc2 {w w' : World} {o o2 : Obj} (hb : Below ((w.alloc o).alloc o2).heap.size ((w.alloc o).alloc o2) w') : Below w.heap.size w w' := below_alloc1 (below_alloc1 hb)
theorem below_drewN1 {w w' : World} {n : Nat} (hb : Below (w.drewN n).heap.size (w.drewN n) w') : Below w.heap.size w w' := (below_drewN (Below.refl _ _) n).trans hb

/-- A call that returns a slice of its own inside a value: its cells; below the old heap nothing has turned. -/
def RetOwn (mk : Option Addr → Nat → Value) (e size n : Nat) (cs : List Value) (w : World) (x : Ending) (w' : World) : Prop :=
  ∃ A c, x = .returned (mk A c) ∧ w'.ownsRow w.heap.size e size (.slice A n c) n cs ∧ Below w.heap.size w w'
theorem RetRow.own {e size n : Nat} {cs : List Value} {w : World} {x : Ending} {w' : World} (h : RetRow e size n cs w x w') : RetOwn (fun A c => .slice A n c) e size n cs w x w' := h

/-- What lay below B is kept when a slice of the call's own, made from B on, is marked. -/
theorem below_mark {B : Nat} {w0 w w' : World} {base size n : Nat} {A : Option Addr} {xs : List Value} (ht : Below B w0 w) (ho : Own w base size A n xs) (hB : B ≤ base) (hB0 : B ≤ w.heap.size) (hg : w.grownBy w' (blk A n)) : Below B w0 w' :=
  ht.grown hg hB0 (fun k hk => Nat.le_trans hB (ho.lt k hk).1)

theorem make_law {P : Program} {ops : Array Oper} {rest : List Oper} {o : Oper} {a : Act} {Q : Exit → Act → World → Prop} {w : World} (hgd : o.guard = none) (l : Operand) {t : TypeId} (ho : o.op = .makeSlice t l l) {e : TypeId} {size : Nat} (T : SlT P t e size)
    {kl : IntKind} {n : Nat} (hl : a.eval l = .int kl (n : Int)) (hn : n ≤ 1099511627776)
    (h : ∀ zs w', zs.length = n * size → Own w' w.heap.size size (some ⟨w.heap.size, 0, none⟩) n zs → Below w.heap.size w w' → wpList P ops Q rest (a.put o.dst (.slice (some ⟨w.heap.size, 0, none⟩) n n)) w') : wpList P ops Q (o :: rest) a w := by
  obtain ⟨i, z, hi, hz, hsz, hby, hzs⟩ := T.info
  refine wpList_make_full w hgd l l t ho w.heap.size e i z size T.und hi hz hsz kl kl n n n hl hl rfl rfl ?_ ?_ (Nat.le_refl _) ?_
  · have := Nat.mul_le_mul hby hn
    omega
  · simp only [maxLen]; omega
  · intro w' hown hg
    exact h _ w' (by simpa using hown.1) (Own.of_row hown) ((Below.refl _ _).grown hg (Nat.le_refl _) (by simp))

theorem Own.at0 {w : World} {base size g n : Nat} {xs : List Value} (h : Own w base size (some ⟨g, 0, none⟩) n xs) (hn : 0 < n) :
    base ≤ g ∧ (∀ j u, xs[j]? = some u → w.cell? ⟨g, j, none⟩ = some u) ∧ (∀ j, w.frozen? ⟨g, j, none⟩ = false) ∧ ∀ j u, Own (w.setCell ⟨g, j, none⟩ u) base size (some ⟨g, 0, none⟩) n (xs.set j u) := by
  obtain ⟨g', o, hA, hb, _, hc, hf, hs⟩ := h.cells hn
  injection hA with hA
  injection hA with h1 h2
  subst h1
  subst h2
  simp only [Nat.zero_add] at hc hf hs
  exact ⟨hb, hc, hf, fun j u => (hs j u).1⟩

theorem Own.setLow {w : World} {base size n : Nat} {A : Option Addr} {xs : List Value} (h : Own w base size A n xs) {b o : Nat} {u : Value} (hp : b < base) : Own (w.setCell ⟨b, o, none⟩ u) base size A n xs :=
  h.grown (row := some b) ⟨rfl, rfl, rfl, by simp, fun k _ hk => heap_setCell_other w ⟨b, o, none⟩ k u (fun e => hk (by simp [e]))⟩ fun g hg e => by
    have := (h.lt g hg).1
    injection e with e
    omega
/-- A call that returns a slice inside a value, in memory of its own; below the old heap nothing has turned. -/
def RetRd (mk : Option Addr → Nat → Value) (size n : Nat) (cs : List Value) (w : World) (x : Ending) (w' : World) : Prop :=
  ∃ A c, x = .returned (mk A c) ∧ Own w' w.heap.size size A n cs ∧ Below w.heap.size w w'
theorem cell_two' {w : World} {b : Nat} {u : Value} (d : w.cell? ⟨b, 1, none⟩ = some u) (v1 v2 : Value) : ((w.setCell ⟨b, 0, none⟩ v1).setCell ⟨b, 1, none⟩ v2).cell? ⟨b, 1, none⟩ = some v2 :=
  cell_set_eq v2 ((cell_set_ne v1 (Or.inr (by decide))).trans d)

end Go.Proofs.Ytlohpphmamapeaa
/-
  Contracts of the laws' own helpers on slices of integers and of strings: equal, marked, held, copied, measured.
  Conditions: at most 2^20 elements.
-/
namespace Go.Proofs.Ytlohpphmamapeaa
open Go.RowKit
set_option linter.unusedVariables false

theorem take_eq_succ {α : Type} {a b : List α} {k : Nat} (ha : k < a.length) (hb : k < b.length) (h : a.take k = b.take k) (hk : a[k] = b[k]) : a.take (k + 1) = b.take (k + 1) := by
  rw [List.take_succ_eq_append_getElem ha, List.take_succ_eq_append_getElem hb, h, hk]
theorem eq_of_takes {α : Type} {a b : List α} {k : Nat} (hl : a.length = b.length) (hk : a.length ≤ k) (h : a.take k = b.take k) : a = b := by
  rwa [List.take_of_length_le hk, List.take_of_length_le (by omega)] at h
theorem ne_at {α : Type} {a b : List α} {k : Nat} (ha : k < a.length) (hb : k < b.length) (h : a[k] ≠ b[k]) : a ≠ b := by
  intro e; subst e; exact h rfl

set_option maxRecDepth 100000 in
set_option maxHeartbeats 1000000 in
theorem eqIntS_c (A B : Option Addr) (c d : Nat) (xs ys : List Int) (w : World) (hA : Rd w 1 A xs.length (ints xs)) (hB : Rd w 1 B ys.length (ints ys)) (hx : xs.length ≤ 1099511627776) (hy : ys.length ≤ 1099511627776) :
    Calls Try.prog 26 #[.slice A xs.length c, .slice B ys.length d] w fun e w' => e = .returned (.bool (decide (xs = ys))) ∧ Below w.heap.size w w' := by
  by_cases hl : xs.length = ys.length
  case neg =>
    rw [decide_eq_false (show ¬ xs = ys from fun e => hl (by rw [e]))]
    have hl' : ((xs.length : Int) != (ys.length : Int)) = true := by rw [bne_iff_ne]; omega
    go_enter Try.func26, Try.ntmps26
    go_wp2
    go_ret
    exact ⟨rfl, Below.refl _ _⟩
  case pos =>
    have HL := Lib.hid hl
    have HA := Lib.hid hA
    have HB := Lib.hid hB
    obtain ⟨n, hn⟩ : ∃ n, n = ys.length := ⟨_, rfl⟩
    have hn1 : xs.length = n := by omega
    rw [hn1, ← hn]
    have HN := Lib.hid hn
    have HN1 := Lib.hid hn1
    have hn2 : n ≤ 1099511627776 := by omega
    clear hA hB hn hn1 hl hx hy
    go_enter Try.func26, Try.ntmps26
    go_wp2
    go_loopw [5] (fun i wr => ∃ k : Nat, k ≤ n ∧ i = .int .i64 k ∧ xs.take k = ys.take k ∧ ∃ m, wr = w.drewN m) (fun i _ => n - (intOf i).toNat)
    case atStart => exact ⟨0, by omega, rfl, by simp, 0, rfl⟩
    case round =>
      obtain ⟨k, hk, rfl, ht, m, rfl⟩ := hrel
      have HT := Lib.hid ht
      clear ht
      by_cases hlt : k < n
      · obtain ⟨b1, o1, rfl, hz1, hc1⟩ := HA.out.intAt (k := k) (by have := HN1.out; omega)
        obtain ⟨b2, o2, rfl, hz2, hc2⟩ := HB.out.intAt (k := k) (by have := HN.out; omega)
        by_cases he : xs[k] = ys[k]
        · have HE := Lib.hid he
          rw [← he] at hc2
          clear he
          generalize xs[k] = z at hc1 hc2
          go_wp2
          go_quiet (fail)
          go_wp2
          go_roundw
          case rel => exact ⟨k + 1, by omega, by go_num, take_eq_succ hz1 hz2 HT.out HE.out, _, rfl⟩
          case measure => simp [intOf]; omega
        · have HE := Lib.hid he
          generalize xs[k] = x at hc1 he
          generalize ys[k] = y at hc2 he
          have he' : (x != y) = true := by rw [bne_iff_ne]; exact he
          clear he
          go_wp2
          go_quiet (fail)
          go_wp2
          go_ret
          exact ⟨ret_bool (decide_eq_false (ne_at hz1 hz2 HE.out)).symm, by repeat (first | exact Below.refl _ _ | refine below_drewN ?_ _ | refine Below.drew ?_)⟩
      · go_wp2
        go_ret
        exact ⟨ret_bool (decide_eq_true (eq_of_takes HL.out (by have := HN1.out; omega) HT.out)).symm, by repeat (first | exact Below.refl _ _ | refine below_drewN ?_ _ | refine Below.drew ?_)⟩
theorem eqIntS_t (A B : Option Addr) (c d : Nat) (xs : List (Int)) (w : World) (hA : Rd w 1 A xs.length (ints xs)) (hB : Rd w 1 B xs.length (ints xs)) (hx : xs.length ≤ 1099511627776) :
    Calls Try.prog 26 #[.slice A xs.length c, .slice B xs.length d] w fun e w' => e = .returned (.bool true) ∧ Below w.heap.size w w' :=
  (eqIntS_c A B c d xs xs w hA hB hx hx).mono fun _ _ ⟨he, hb⟩ => ⟨he.trans (ret_bool (decide_eq_true rfl)), hb⟩

/-- The cells of a slice of integers that is being marked. -/
def markI (xs : List Value) (q : Int) (k : Nat) : List Value := (List.range k).map (fun j => Value.int .i64 (q + (j : Nat))) ++ xs.drop k
theorem markI_set (xs : List Value) (q : Int) (k : Nat) (h : k < xs.length) : (markI xs q k).set k (.int .i64 (q + k)) = markI xs q (k + 1) := by
  unfold markI
  rw [List.set_append_right _ _ (by simp), List.length_map, List.length_range, Nat.sub_self, List.drop_eq_getElem_cons h, List.set_cons_zero, List.range_succ, List.map_append]
  simp
def marked (q : Int) (n : Nat) : List Int := (List.range n).map fun j => q + (j : Nat)
theorem marked_len (q : Int) (n : Nat) : (marked q n).length = n := by simp [marked]
theorem marked_at (q : Int) (n k : Nat) (h : k < (marked q n).length) : (marked q n)[k] = q + k := by simp [marked]
theorem markI_all (xs : List Value) (q : Int) : markI xs q xs.length = ints (marked q xs.length) := by simp [markI, ints, marked]

set_option maxRecDepth 100000 in
set_option maxHeartbeats 1000000 in
theorem markIntS_c (A : Option Addr) (n c base : Nat) (cs : List Value) (q : Int) (w : World) (hA : Own w base 1 A n cs) (hn : n ≤ 1099511627776) (hq0 : 0 ≤ q) (hq : q ≤ 1099511627776) :
    Calls Try.prog 29 #[.slice A n c, .int .i64 q] w fun e w' => e = .returned (.int .i64 (q + n)) ∧ Own w' base 1 A n (ints (marked q n)) ∧ w.grownBy w' (blk A n) := by
  have hlen : cs.length = n := by simpa using hA.1
  have HL := Lib.hid hlen
  have HA := Lib.hid hA
  clear hlen hA
  go_enter Try.func29, Try.ntmps29
  go_wp2
  go_loopw [1, 5] (fun q' i wr => ∃ k : Nat, k ≤ n ∧ i = .int .i64 k ∧ q' = .int .i64 (q + k) ∧ Own wr base 1 A n (markI cs q k) ∧ w.grownBy wr (blk A n)) (fun _ i _ => n - (intOf i).toNat)
  case atStart => exact ⟨0, by omega, rfl, by simp, by simpa [markI] using HA.out, World.grownBy.refl w _⟩
  case round =>
    obtain ⟨k, hk, rfl, rfl, hown, hg⟩ := hrel
    by_cases hlt : k < n
    · obtain ⟨b, o, rfl, _, _, hz, hf, hst⟩ := hown.cells (by omega)
      have hlm : k < (markI cs q k).length := by have := hown.1; omega
      have hc1 := hz k _ (List.getElem?_eq_getElem hlm)
      have hf1 := hf k
      have HST := Lib.hid (hst k (.int .i64 (q + k)))
      have HG := Lib.hid hg
      generalize (markI cs q k)[k] = u at hc1
      clear hz hown hg hf hst
      go_wp2
      go_roundw
      case rel => exact ⟨k + 1, by omega, by go_num, by go_num, by rw [← markI_set cs q k (by rw [HL.out]; exact hlt)]; exact HST.out.1, HG.out.trans (by unfold blk; rw [if_neg (by omega)]; exact HST.out.2)⟩
      case measure => simp [intOf]; omega
    · obtain rfl : k = n := by omega
      have HO := Lib.hid hown
      have HG := Lib.hid hg
      clear hown hg
      go_wp2
      go_ret
      exact ⟨rfl, by have := HO.out; rw [← HL.out] at this ⊢; rwa [markI_all] at this, HG.out⟩
set_option maxRecDepth 100000 in
set_option maxHeartbeats 1000000 in
theorem heldIntS_c (A : Option Addr) (n c : Nat) (q : Int) (w : World) (hA : Rd w 1 A n (ints (marked q n))) (hn : n ≤ 1099511627776) (hq0 : 0 ≤ q) (hq : q ≤ 1099511627776) :
    Calls Try.prog 30 #[.slice A n c, .int .i64 q] w fun e w' => e = .returned (.int .i64 (q + n)) ∧ Below w.heap.size w w' := by
  have HA := Lib.hid hA
  clear hA
  go_enter Try.func30, Try.ntmps30
  go_wp2
  go_loopw [1, 5] (fun q' i wr => ∃ k : Nat, k ≤ n ∧ i = .int .i64 k ∧ q' = .int .i64 (q + k) ∧ ∃ m, wr = w.drewN m) (fun _ i _ => n - (intOf i).toNat)
  case atStart => exact ⟨0, by omega, rfl, by simp, 0, rfl⟩
  case round =>
    obtain ⟨k, hk, rfl, rfl, m, rfl⟩ := hrel
    by_cases hlt : k < n
    · obtain ⟨b, o, rfl, hz, hc⟩ := HA.out.intAt hlt
      rw [marked_at] at hc
      go_wp2
      go_roundw
      case rel => exact ⟨k + 1, by omega, by go_num, by go_num, _, rfl⟩
      case measure => simp [intOf]; omega
    · obtain rfl : k = n := by omega
      go_wp2
      go_ret
      exact ⟨rfl, by repeat (first | exact Below.refl _ _ | refine below_drewN ?_ _ | refine Below.drew ?_)⟩

end Go.Proofs.Ytlohpphmamapeaa
/-
  The cells of slices of structs.
  Conditions: none; this text names no law.
-/
namespace Go.Proofs.Ytlohpphmamapeaa
open Go.RowKit
set_option linter.unusedVariables false

/-- The cells of a slice of rules. -/
def rule2 (r : M.Rule) : List Value := [.string ⟨r.left.toArray⟩, .string ⟨r.right.toArray⟩]
def ruls (rs : List M.Rule) : List Value := rs.flatMap rule2
theorem ruls_len : ∀ rs : List M.Rule, (ruls rs).length = rs.length * 2
  | [] => rfl
  | r :: rs => by have := ruls_len rs; simp [ruls, rule2] at this ⊢; omega
theorem ruls_add (a b : List M.Rule) : ruls (a ++ b) = ruls a ++ ruls b := by simp [ruls]
theorem ruls_at : ∀ {rs : List M.Rule} {k : Nat} (h : k < rs.length), (ruls rs)[k * 2]? = some (.string ⟨rs[k].left.toArray⟩) ∧ (ruls rs)[k * 2 + 1]? = some (.string ⟨rs[k].right.toArray⟩)
  | r :: rs, 0, h => by simp [ruls, rule2]
  | r :: rs, k + 1, h => by
    have ih := ruls_at (rs := rs) (k := k) (by simpa using h)
    have e : (k + 1) * 2 = k * 2 + 2 := by omega
    rw [e]
    simpa [ruls, rule2] using ih
theorem Rd.ruleAt {w : World} {A : Option Addr} {n : Nat} {rs : List M.Rule} (h : Rd w 2 A n (ruls rs)) {k : Nat} (hk : k < n) :
    ∃ b o, A = some ⟨b, o, none⟩ ∧ ∃ hz : k < rs.length, w.cell? ⟨b, o + k * 2, none⟩ = some (.string ⟨rs[k].left.toArray⟩) ∧ w.cell? ⟨b, o + k * 2 + 1, none⟩ = some (.string ⟨rs[k].right.toArray⟩) := by
  obtain ⟨b, o, e, hc⟩ := h.2 (by omega)
  have hl : k < rs.length := by have := h.1; rw [ruls_len] at this; omega
  exact ⟨b, o, e, hl, hc _ _ (ruls_at hl).1, by rw [Nat.add_assoc]; exact hc _ _ (ruls_at hl).2⟩

end Go.Proofs.Ytlohpphmamapeaa
/-
  A slice that is being filled, element by element; cells that a region keeps.
  Conditions: none; this text names no law.
-/
namespace Go.Proofs.Ytlohpphmamapeaa
open Go.RowKit
set_option linter.unusedVariables false

theorem held4 {a w w1 : World} {b1 o1 b2 o2 b3 o3 b4 o4 : Nat} {u1 u2 u3 u4 : Value} (h : w.cell? ⟨b1, o1, none⟩ = some u1 ∧ w.cell? ⟨b2, o2, none⟩ = some u2 ∧ w.cell? ⟨b3, o3, none⟩ = some u3 ∧ w.cell? ⟨b4, o4, none⟩ = some u4 ∧ Below a.heap.size a w) (hb : Below w.heap.size w w1) :
    w1.cell? ⟨b1, o1, none⟩ = some u1 ∧ w1.cell? ⟨b2, o2, none⟩ = some u2 ∧ w1.cell? ⟨b3, o3, none⟩ = some u3 ∧ w1.cell? ⟨b4, o4, none⟩ = some u4 ∧ Below a.heap.size a w1 :=
  ⟨cellKeep hb h.1, cellKeep hb h.2.1, cellKeep hb h.2.2.1, cellKeep hb h.2.2.2.1, below_then h.2.2.2.2 hb⟩
theorem held4_below {a w : World} {p1 p2 p3 p4 : Prop} (h : p1 ∧ p2 ∧ p3 ∧ p4 ∧ Below a.heap.size a w) : Below a.heap.size a w := h.2.2.2.2
/-- The cells of a slice that is being filled. -/
def part {α : Type} (f : α → List Value) (rs : List α) (zs : List Value) (s k : Nat) : List Value := (rs.take k).flatMap f ++ zs.drop (k * s)
theorem part_len {α : Type} {f : α → List Value} {s : Nat} (hf : ∀ r, (f r).length = s) : ∀ (rs : List α) (k : Nat), ((rs.take k).flatMap f).length = min k rs.length * s
  | [], k => by simp
  | r :: rs, 0 => by simp
  | r :: rs, k + 1 => by
    have := part_len hf rs k
    rw [List.take_succ_cons, List.flatMap_cons, List.length_append, hf, this, List.length_cons]
    have e : min (k + 1) (rs.length + 1) = min k rs.length + 1 := by omega
    rw [e, Nat.add_mul]; omega
theorem set_here {α : Type} (a t : List α) (x u : α) {k : Nat} (h : k = a.length) : (a ++ x :: t).set k u = a ++ u :: t := by
  subst h; rw [List.set_append_right _ _ (Nat.le_refl _), Nat.sub_self, List.set_cons_zero]
theorem part2 {α : Type} {f : α → List Value} (hf : ∀ r, (f r).length = 2) {rs : List α} {zs : List Value} {k : Nat} (hk : k < rs.length) (hz : zs.length = rs.length * 2) {u v : Value} (h : f rs[k] = [u, v]) :
    ((part f rs zs 2 k).set (k * 2) u).set (k * 2 + 1) v = part f rs zs 2 (k + 1) := by
  have hl := part_len hf rs k
  rw [Nat.min_eq_left (by omega)] at hl
  unfold part
  rw [List.drop_eq_getElem_cons (l := zs) (i := k * 2) (by omega), List.drop_eq_getElem_cons (l := zs) (i := k * 2 + 1) (by omega), set_here _ _ _ _ hl.symm]
  have e : (rs.take k).flatMap f ++ u :: zs[k * 2 + 1]'(by omega) :: zs.drop (k * 2 + 1 + 1) = ((rs.take k).flatMap f ++ [u]) ++ zs[k * 2 + 1]'(by omega) :: zs.drop (k * 2 + 1 + 1) := by simp
  rw [e, set_here _ _ _ _ (by simp [hl]), List.take_succ_eq_append_getElem hk, List.flatMap_append]
  have e2 : (k + 1) * 2 = k * 2 + 1 + 1 := by omega
  simp [h, e2]
theorem part_all {α : Type} {f : α → List Value} {rs : List α} {zs : List Value} {s : Nat} (hz : zs.length = rs.length * s) : part f rs zs s rs.length = rs.flatMap f := by
  unfold part; rw [List.take_length, ← hz, List.drop_length, List.append_nil]
theorem part_zero {α : Type} {f : α → List Value} {rs : List α} {zs : List Value} {s : Nat} : part f rs zs s 0 = zs := by simp [part]
theorem Own.len {w : World} {base size n : Nat} {A : Option Addr} {xs : List Value} (h : Own w base size A n xs) : xs.length = n * size := h.1
theorem part3 {α : Type} {f : α → List Value} (hf : ∀ r, (f r).length = 3) {rs : List α} {zs : List Value} {k : Nat} (hk : k < rs.length) (hz : zs.length = rs.length * 3) {u v x : Value} (h : f rs[k] = [u, v, x]) :
    (((part f rs zs 3 k).set (k * 3) u).set (k * 3 + 1) v).set (k * 3 + 2) x = part f rs zs 3 (k + 1) := by
  have hl := part_len hf rs k
  rw [Nat.min_eq_left (by omega)] at hl
  unfold part
  rw [List.drop_eq_getElem_cons (l := zs) (i := k * 3) (by omega), List.drop_eq_getElem_cons (l := zs) (i := k * 3 + 1) (by omega), List.drop_eq_getElem_cons (l := zs) (i := k * 3 + 1 + 1) (by omega), set_here _ _ _ _ hl.symm]
  have e : ∀ (a b : Value) t, (rs.take k).flatMap f ++ u :: a :: b :: t = ((rs.take k).flatMap f ++ [u]) ++ a :: b :: t := fun a b t => by simp
  rw [e, set_here _ _ _ _ (by simp [hl])]
  have e' : ∀ (b : Value) t, ((rs.take k).flatMap f ++ [u]) ++ v :: b :: t = ((rs.take k).flatMap f ++ [u, v]) ++ b :: t := fun b t => by simp
  rw [e', set_here _ _ _ _ (by simp [hl]), List.take_succ_eq_append_getElem hk, List.flatMap_append]
  have e2 : (k + 1) * 3 = k * 3 + 1 + 1 + 1 := by omega
  simp [h, e2]

end Go.Proofs.Ytlohpphmamapeaa
/-
  The frame of every law's proof in this seat: a law returns true and leaves what was there as it was.
  Conditions: none; this text names no law.
-/
namespace Go.Proofs.Ytlohpphmamapeaa
open Go.ChangeShapes Go.WideShapes Go.ChangeAt Go.RowKit

section
variable {H : Type} {enc : TypeId × Value → H} {P : Program}

theorem postBelow {f : Func} {s : ChangeSpec} {apart fresh handsOn again : Bool} {W W' : World} {args : Array Value} {v : Value} {ds gs : List (DataW H)} {before pa pv : List MemPlace}
    (hW : DataW.Whole enc P f.params.toList s.vars apart W args.toList ds gs before)
    (hres : ∀ (b : Nat) (sp : Nat → Bool) (hd : Bool), DataW.TrodAll enc P W' b sp hd f.resultTypes.toList (v.resultList f.resultTypes.size) (s.fn H (ds ++ gs)).results [])
    (hargs : ∀ sp : Nat → Bool, (∀ p ∈ before, sp p.block = true) → DataW.TrodAll enc P W' 0 sp true f.params.toList args.toList (s.fn H (ds ++ gs)).args pa)
    (hvars : ∀ sp : Nat → Bool, (∀ p ∈ before, sp p.block = true) → DataW.TrodVars enc P W' sp s.vars (s.fn H (ds ++ gs)).vars pv)
    (hps : before = pa ++ pv) (hb : Below W.heap.size W W')
    (hok : ∀ (j : Nat) (t : TypeId) (r : Value), f.resultTypes[j]? = some t → (v.resultList f.resultTypes.size)[j]? = some r → Value.okWide P W' .any 0 t r) :
    s.post enc P f apart fresh handsOn again W args v W' := by
  have hlt : ∀ p ∈ before, p.block < W.heap.size := fun p hp => hW.lt p hp
  have hold : ∀ p ∈ before, (fun b => decide (b < W.heap.size)) p.block = true := fun p hp => by simpa using hlt p hp
  refine ⟨ds, gs, before, [], pa, pv, hW, hres _ _ _, hargs _ hold, hvars _ hold, World.keptBut_mono (fun p hp => ⟨hp, ?_⟩) (hb.frame (· ∈ before)), fun _ => ?_⟩
  · rw [hps, List.mem_append] at hp
    exact Or.inr hp
  · obtain ⟨_, _, _, _, _, hz, hn⟩ := hW
    refine ⟨hok, _, _, ([] ++ pa) ++ pv, ⟨[] ++ pa, pv, trodAll_append (hargs _ (fun _ _ => rfl)) (hres _ _ _), hvars _ (fun _ _ => rfl), rfl, ?_, ?_⟩, ?_⟩
    · intro b off hp
      have hin : MemPlace.cell b off ∈ before := by rw [hps]; simpa using hp
      rw [hb.frozen (hlt _ hin)]
      exact hz b off hin
    · intro ha
      have := hn ha
      rw [hps] at this
      simpa using this
    · intro p hp _
      rw [hps]
      simpa using hp

/-- One closed fact: every type of the list can be read and is a row of the table. -/
def typesRead (P : Program) (ts : List TypeId) : Bool := ts.all fun t => P.readableRec t && decide (t < P.types.size)

theorem trodAllBelow (hl : laidOutB P = true) {W W' : World} (hb : Below W.heap.size W W') (sp : Nat → Bool) :
    ∀ {ts : List TypeId} {vs : List Value} {ds : List (DataW H)} {ps : List MemPlace}, typesRead P ts = true → DataW.TrodAll enc P W 0 (fun _ => true) true ts vs ds ps →
      (∀ x ∈ ps, x.block < W.heap.size) → (∀ x ∈ ps, sp x.block = true) → DataW.TrodAll enc P W' 0 sp true ts vs ds ps
  | [], [], [], _, _, h, _, _ => h
  | [], [], _ :: _, _, _, h, _, _ => h.elim
  | [], _ :: _, _, _, _, h, _, _ => h.elim
  | _ :: _, [], _, _, _, h, _, _ => h.elim
  | _ :: _, _ :: _, [], _, _, h, _, _ => h.elim
  | t :: ts, v :: vs, d :: ds, ps, hr, h, hlt, hsp => by
    obtain ⟨p, q, h1, h2, rfl⟩ := h
    simp only [typesRead, List.all_cons, Bool.and_eq_true, decide_eq_true_eq] at hr
    exact ⟨p, q, WideElems.Trod_stays hl hr.1.1 hr.1.2 h1 (fun x hx => hb.same (hlt x (by simp [hx]))) (fun x hx => hsp x (by simp [hx])),
      trodAllBelow hl hb sp (by simpa [typesRead] using hr.2) h2 (fun x hx => hlt x (by simp [hx])) (fun x hx => hsp x (by simp [hx])), rfl⟩

/-- What a law's row asks at the end: the call has returned true, and below the heap's old size nothing has turned. -/
theorem lawPost {f : Func} {s : ChangeSpec} {tb : TypeId} {W W' : World} {args : Array Value} {ds gs : List (DataW H)} {before : List MemPlace}
    (hl : laidOutB P = true) (hp : typesRead P f.params.toList = true) (hr : f.resultTypes = #[tb]) (hb : P.underlying tb = some .bool) (hs : s.vars = [])
    (hfn : s.fn H ds = { results := [.lit (.bool true)], args := ds })
    (hW : DataW.Whole enc P f.params.toList s.vars false W args.toList ds gs before) (hB : Below W.heap.size W W') :
    s.post enc P f false true false false W args (.bool true) W' := by
  have hlt : ∀ x ∈ before, x.block < W.heap.size := fun x hx => hW.lt x hx
  have hW' := hW
  obtain ⟨p, q, hA, hV, rfl, _, _⟩ := hW'
  rw [hs] at hV
  obtain ⟨rfl, rfl⟩ := trodVars_none hV
  have hfn' : s.fn H (ds ++ []) = { results := [.lit (.bool true)], args := ds } := by rw [List.append_nil]; exact hfn
  refine postBelow (pa := p) (pv := []) hW (fun b sp hd => ?_) (fun sp hsp => ?_) (fun sp _ => ?_) rfl hB ?_
  · rw [hfn', hr]
    exact trodAll_mk1 (shut_bool hb true)
  · rw [hfn']
    exact trodAllBelow hl hB sp hp hA (fun x hx => hlt x (by simp [hx])) (fun x hx => hsp x (by simp [hx]))
  · rw [hfn', hs]
    rfl
  · exact ok_one hr rfl (okWide_bool_mk hb true)
end

theorem Try.own : ownKnob Try.prog.godebug = none := by kernel_rfl
theorem Try.laidOut : laidOutB Try.prog = true := by kernel_rfl
theorem Try.boolType : Try.prog.underlying 4 = some .bool := Try.underlying4

end Go.Proofs.Ytlohpphmamapeaa
/-
  The arguments of the laws, opened: what a value that can be read looks like.
  Conditions: none; this text names no law.
-/
namespace Go.Proofs.Ytlohpphmamapeaa
open Go.ChangeShapes Go.WideShapes Go.ChangeAt Go.RowKit Go.Joins

theorem bytesList (s : ByteArray) : ∃ l : List UInt8, s = ⟨l.toArray⟩ := ⟨s.data.toList, by cases s; simp⟩
theorem bytesLen {l : List UInt8} (h : (ByteArray.mk l.toArray).size ≤ maxLen) : l.length ≤ 9223372036854775807 := by simpa [ByteArray.size, maxLen] using h
theorem intBounds {n : Int} (h : (Lit.int .i64 n).wf = true) : -9223372036854775808 ≤ n ∧ n ≤ 9223372036854775807 := by
  have h1 : IntKind.i64.min = -9223372036854775808 := rfl
  have h2 : IntKind.i64.max = 9223372036854775807 := rfl
  simp only [Lit.wf, Bool.and_eq_true, decide_eq_true_eq] at h
  omega

section
variable {H : Type} {enc : TypeId × Value → H} {w : World} {b0 : Nat} {held : Bool} {spare : Nat → Bool} {v : Value} {d : DataW H} {p : List MemPlace}
set_option maxRecDepth 100000 in
theorem openOneString {n : Nat} {v : Value} {y : DataW H × List MemPlace} (h : DataW.trod enc Try.prog w 0 spare held n 9 [v] = some y) :
    ∃ l : List UInt8, v = .string ⟨l.toArray⟩ ∧ l.length ≤ 9223372036854775807 := by
  obtain ⟨s, e, _, hs⟩ := DataW.trod_string Try.underlying9 h
  obtain ⟨l, rfl⟩ := bytesList s
  simp only [List.cons.injEq, and_true] at e
  exact ⟨l, e, bytesLen hs⟩
theorem Try.cellsLawRule : Try.prog.cellsOf 135 = 2 := by kernel_rfl
set_option maxRecDepth 100000 in
theorem openRule (hv : Value.okWide Try.prog w .any b0 135 v) (h : DataW.Trod enc Try.prog w 0 spare held 135 v d p) :
    ∃ r : M.Rule, v = .agg #[.string ⟨r.left.toArray⟩, .string ⟨r.right.toArray⟩] ∧ (r.left.length ≤ 9223372036854775807 ∧ r.right.length ≤ 9223372036854775807) := by
  obtain ⟨c0, c1, y0, y1, m, rfl, rfl, rfl, hy0, hy1⟩ := open_agg2 Try.underlying135 (by kernel_rfl) Try.cellsLawRule hv h
  obtain ⟨l, rfl, hl⟩ := openOneString hy0
  obtain ⟨r, rfl, hr⟩ := openOneString hy1
  exact ⟨⟨l, r⟩, rfl, hl, hr⟩
end

end Go.Proofs.Ytlohpphmamapeaa
/-
  Arguments that are slices, or structs with slices, opened.
  Conditions: none; this text names no law.
-/
namespace Go.Proofs.Ytlohpphmamapeaa
open Go.ChangeShapes Go.WideShapes Go.ChangeAt Go.RowKit Go.Joins Go.Deep
set_option linter.unusedVariables false

theorem flat_at {α : Type} {f : α → List Value} {s : Nat} (hf : ∀ r, (f r).length = s) : ∀ (rs : List α) (i q : Nat) (h : i < rs.length), q < s → (rs.flatMap f)[i * s + q]? = (f rs[i])[q]?
  | r :: rs, 0, q, _, hq => by
    rw [List.flatMap_cons, Nat.zero_mul, Nat.zero_add, List.getElem?_append_left (by rw [hf]; exact hq)]
    rfl
  | r :: rs, i + 1, q, h, hq => by
    have ih := flat_at hf rs i q (by simpa using h) hq
    rw [List.flatMap_cons, List.getElem?_append_right (by rw [hf, Nat.add_mul]; omega), hf]
    have e : (i + 1) * s + q - s = i * s + q := by rw [Nat.add_mul]; omega
    rw [e, ih]
    rfl
theorem flat_len {α : Type} {f : α → List Value} {s : Nat} (hf : ∀ r, (f r).length = s) : ∀ rs : List α, (rs.flatMap f).length = rs.length * s
  | [] => by simp
  | r :: rs => by rw [List.flatMap_cons, List.length_append, hf, flat_len hf rs, List.length_cons, Nat.add_mul]; omega

section
variable {H : Type} {enc : TypeId × Value → H} {P : Program} {w : World} {base : Nat} {spare : Nat → Bool} {held : Bool}

theorem structCells {t : TypeId} {fs : Array Field} {fuel : Nat} {cs : List Value} {x : DataW H × List MemPlace} (ht : P.underlying t = some (.struct fs)) (hone : oneCellFields P fs = true) (hC : P.cellsOf t = fs.size)
    (h : DataW.trod enc P w base spare held fuel t cs = some x) : cs.length = fs.size ∧ ∃ n, ∀ (i : Nat) (f : Field) (c : Value), fs[i]? = some f → cs[i]? = some c → ∃ y, DataW.trod enc P w base spare held n f.type [c] = some y := by
  obtain ⟨xs, n, _, _, hl, hx, hf⟩ := DataW.trod_struct ht h
  refine ⟨hl.trans hC, n, fun i f c hi hc => ?_⟩
  obtain ⟨ho, hk⟩ := hone_of hone i f hi
  have h1 := hf i f hi
  have hil : i < fs.size := (Array.getElem?_eq_some_iff.1 hi).1
  obtain ⟨hic, hce⟩ := List.getElem?_eq_some_iff.1 hc
  rw [ho, hk, List.drop_eq_getElem_cons hic, hce] at h1
  simp only [List.take_succ_cons, List.take_zero] at h1
  exact ⟨_, h1.trans (List.getElem?_eq_getElem (by omega))⟩

theorem listOf {α : Type} {Q : Nat → α → Prop} : ∀ (n : Nat), (∀ i, i < n → ∃ r, Q i r) → ∃ rs : List α, rs.length = n ∧ ∀ (i : Nat) (h : i < rs.length), Q i rs[i]
  | 0, _ => ⟨[], rfl, fun i h => by simp at h⟩
  | n + 1, h => by
    obtain ⟨rs, hl, hr⟩ := listOf n (fun i hi => h i (by omega))
    obtain ⟨r, hq⟩ := h n (by omega)
    refine ⟨rs ++ [r], by simp [hl], fun i hi => ?_⟩
    by_cases hin : i < rs.length
    · rw [List.getElem_append_left hin]
      exact hr i hin
    · have e : i = rs.length := by simp at hi; omega
      subst e
      simp only [List.getElem_append_right (Nat.le_refl _), Nat.sub_self, List.getElem_cons_zero]
      rw [hl]
      exact hq

/-- A slice that came in: its elements, its cells. -/
theorem openElems {t e : TypeId} {s fuel : Nat} {v : Value} {x : DataW H × List MemPlace} {α : Type} (f : α → List Value) (ok : α → Prop) (hf : ∀ r, (f r).length = s) (hs : 0 < s) (ht : P.underlying t = some (.slice e)) (hc : P.cellsOf e = s)
    (he : ∀ (n : Nat) (cs : List Value) (y : DataW H × List MemPlace), cs.length = s → DataW.trod enc P w base spare held n e cs = some y → ∃ r, cs = f r ∧ ok r)
    (h : DataW.trod enc P w base spare held fuel t [v] = some x) :
    ∃ (A : Option Addr) (c : Nat) (rs : List α), v = .slice A rs.length c ∧ rs.length ≤ 9223372036854775807 ∧ Rd w s A rs.length (rs.flatMap f) ∧ ∀ r ∈ rs, ok r := by
  rcases Go.Deep.open_slice ht h with ⟨hcs, _⟩ | ⟨a, len, cap, m, n, D, Pl, hcs, _, hl, hm, hmm, _, hi⟩
  · simp only [List.cons.injEq, and_true] at hcs
    exact ⟨none, 0, [], hcs, by simp, ⟨by simp, fun h => absurd h (by simp)⟩, by simp⟩
  · simp only [List.cons.injEq, and_true] at hcs
    have hlm : len ≤ m := by rw [hmm]; split <;> omega
    obtain ⟨rs, hrl, hr⟩ := listOf (α := α) (Q := fun i r => w.cells? base (a.add (i * s)) s = some (f r) ∧ ok r) len (fun i hil => by
      obtain ⟨cs', h1, h2⟩ := hi i (by omega)
      rw [hc] at h1
      obtain ⟨_, h3, _⟩ := World.cells?_some h1
      obtain ⟨r, rfl, hok⟩ := he n cs' _ h3 h2
      exact ⟨r, h1, hok⟩)
    refine ⟨some a, cap, rs, by rw [hrl]; exact hcs, by simp only [maxLen] at hm; omega, ⟨flat_len hf rs, fun hn => ?_⟩, fun r hrm => by
      obtain ⟨i, hi', e⟩ := List.getElem_of_mem hrm
      exact e ▸ (hr i hi').2⟩
    have hcell : ∀ i q (hir : i < rs.length), q < s → w.cell? (a.add (i * s + q)) = (f rs[i])[q]? := by
      intro i q hir hq
      obtain ⟨_, _, h4⟩ := World.cells?_some (hr i hir).1
      rw [← Go.Deep.add_add]
      exact h4 q hq
    obtain ⟨b, o, spot⟩ := a
    have hspot : spot = none := by
      have h0 := hcell 0 0 hn hs
      rw [List.getElem?_eq_getElem (show 0 < (f rs[0]).length by rw [hf]; exact hs)] at h0
      simpa [Addr.add] using World.cell?_spot h0
    subst hspot
    refine ⟨b, o, rfl, fun j u hu => ?_⟩
    have hj : j < rs.length * s := by
      have := (List.getElem?_eq_some_iff.1 hu).1
      rwa [flat_len hf rs] at this
    have hj1 : j / s < rs.length := Nat.div_lt_of_lt_mul (by rw [Nat.mul_comm]; exact hj)
    have hj2 : j % s < s := Nat.mod_lt _ hs
    have e : j = j / s * s + j % s := by rw [Nat.mul_comm]; exact (Nat.div_add_mod j s).symm
    have h5 := hcell (j / s) (j % s) hj1 hj2
    have h6 := flat_at hf rs (j / s) (j % s) hj1 hj2
    rw [← e, Addr.add_lit] at h5
    rw [← e, hu] at h6
    rw [h5, ← h6]
end

section
variable {H : Type} {enc : TypeId × Value → H} {w : World} {b0 : Nat} {held : Bool} {spare : Nat → Bool} {v : Value} {d : DataW H} {p : List MemPlace}
theorem openOneInt {n : Nat} {v : Value} {y : DataW H × List MemPlace} (h : DataW.trod enc Try.prog w 0 spare held n 3 [v] = some y) :
    ∃ k : Int, v = .int .i64 k ∧ -9223372036854775808 ≤ k ∧ k ≤ 9223372036854775807 := by
  obtain ⟨k, e, _, hs⟩ := DataW.trod_int Try.underlying3 h
  simp only [List.cons.injEq, and_true] at e
  exact ⟨k, e, intBounds hs⟩
theorem openOneBool {n : Nat} {v : Value} {y : DataW H × List MemPlace} (h : DataW.trod enc Try.prog w 0 spare held n 4 [v] = some y) : ∃ b : Bool, v = .bool b := by
  obtain ⟨b, e, _⟩ := DataW.trod_bool Try.underlying4 h
  simp only [List.cons.injEq, and_true] at e
  exact ⟨b, e⟩
set_option maxRecDepth 100000 in
theorem openRuleSlice {n : Nat} {v : Value} {y : DataW H × List MemPlace} (h : DataW.trod enc Try.prog w 0 spare held n 22 [v] = some y) :
    ∃ (A : Option Addr) (c : Nat) (rs : List M.Rule), v = .slice A rs.length c ∧ rs.length ≤ 9223372036854775807 ∧ Rd w 2 A rs.length (ruls rs) ∧ ∀ r ∈ rs, r.left.length ≤ 9223372036854775807 ∧ r.right.length ≤ 9223372036854775807 :=
  openElems rule2 _ (fun _ => rfl) (by decide) Try.underlying22 Try.cellsLawRule (fun m cs y hl hy => by
    obtain ⟨_, k, hk⟩ := structCells Try.underlying135 (by kernel_rfl) Try.cellsLawRule hy
    match cs, hl with
    | [c0, c1], _ =>
      obtain ⟨y0, h0⟩ := hk 0 _ c0 rfl rfl
      obtain ⟨y1, h1⟩ := hk 1 _ c1 rfl rfl
      obtain ⟨l, rfl, hl⟩ := openOneString h0
      obtain ⟨r, rfl, hr⟩ := openOneString h1
      exact ⟨⟨l, r⟩, rfl, hl, hr⟩) h
theorem Try.cellsLawSystem : Try.prog.cellsOf 24 = 2 := by kernel_rfl
set_option maxRecDepth 100000 in
theorem openSystem (hv : Value.okWide Try.prog w .any b0 24 v) (h : DataW.Trod enc Try.prog w 0 spare held 24 v d p) :
    ∃ (k : Int) (A : Option Addr) (c : Nat) (rs : List M.Rule), v = .agg #[.int .i64 k, .slice A rs.length c] ∧ ((-9223372036854775808 ≤ k ∧ k ≤ 9223372036854775807) ∧ rs.length ≤ 9223372036854775807 ∧ Rd w 2 A rs.length (ruls rs) ∧ ∀ r ∈ rs, r.left.length ≤ 9223372036854775807 ∧ r.right.length ≤ 9223372036854775807) := by
  obtain ⟨c0, c1, y0, y1, m, rfl, rfl, rfl, hy0, hy1⟩ := open_agg2 Try.underlying24 (by kernel_rfl) Try.cellsLawSystem hv h
  obtain ⟨k, rfl, hk⟩ := openOneInt hy0
  obtain ⟨A, c, rs, rfl, h1, h2, h3⟩ := openRuleSlice hy1
  exact ⟨k, A, c, rs, rfl, hk, h1, h2, h3⟩
end

end Go.Proofs.Ytlohpphmamapeaa
/-
  The laws' helpers on slices of Step: their cells; copied, compared, measured; openers.
  Conditions: at most 2^20 elements.
-/
namespace Go.Proofs.Ytlohpphmamapeaa
open Go.ChangeShapes Go.WideShapes Go.ChangeAt Go.RowKit Go.Joins Go.Deep
set_option linter.unusedVariables false

structure M.Step where
  rule : Int
  place : Int
theorem step_ext {x y : M.Step} (h : x.rule = y.rule ∧ x.place = y.place) : x = y := by cases x; cases y; simp_all
def stepCells (x : M.Step) : List Value := [.int .i64 x.rule, .int .i64 x.place]
def steps_ (xs : List M.Step) : List Value := xs.flatMap stepCells
theorem steps_len (xs : List M.Step) : (steps_ xs).length = xs.length * 2 := flat_len (f := stepCells) (s := 2) (fun _ => rfl) xs
theorem Rd.stepAt {w : World} {A : Option Addr} {n : Nat} {xs : List M.Step} (h : Rd w 2 A n (steps_ xs)) {k : Nat} (hk : k < n) :
    ∃ b o, A = some ⟨b, o, none⟩ ∧ ∃ hz : k < xs.length, w.cell? ⟨b, o + k * 2, none⟩ = some (.int .i64 xs[k].rule) ∧ w.cell? ⟨b, o + k * 2 + 1, none⟩ = some (.int .i64 xs[k].place) := by
  obtain ⟨b, o, e, hc⟩ := h.2 (by omega)
  have hl : k < xs.length := by have := h.1; rw [steps_len] at this; omega
  have hq := fun q hq => flat_at (f := stepCells) (s := 2) (fun _ => rfl) xs k q hl hq
  refine ⟨b, o, e, hl, ?_, ?_⟩
  · simpa using hc (k * 2) _ (hq 0 (by omega))
  · rw [Nat.add_assoc]; exact hc (k * 2 + 1) _ (hq 1 (by omega))

end Go.Proofs.Ytlohpphmamapeaa
/-
  What the functions on rules compute, in plain words.
  Conditions: none; this text names no law.
-/
namespace Go.Proofs.Ytlohpphmamapeaa.M
set_option linter.unusedVariables false

def SidesOk (k : Int) (r : Rule) : Bool := WordOk k r.left && WordOk k r.right && decide ((r.left.length : Int) ≤ 8) && decide ((r.right.length : Int) ≤ 8)
def oriented (r : Rule) : Rule := if IsLess r.left r.right = true then ⟨r.right, r.left⟩ else r
def OrientRule (k : Int) (r : Rule) : Rule × Bool := if SidesOk k r = false then (⟨[], []⟩, false) else if r.left = r.right then (⟨[], []⟩, false) else (oriented r, true)

/-- What szRuleS leaves. -/
def szFrom : List Rule → Int → Int
  | [], n => n
  | r :: rs, n => if szRule r n < 0 then -1 else szFrom rs (szRule r n)
def szRules (rs : List Rule) (n : Int) : Int := if n - rs.length < 0 then -1 else szFrom rs (n - rs.length)
theorem szFrom_ok : ∀ (rs : List Rule) (n : Int), 0 ≤ n → ¬ szFrom rs n < 0 → (∀ r ∈ rs, (r.left.length : Int) ≤ n ∧ (r.right.length : Int) ≤ n) ∧ szFrom rs n ≤ n
  | [], n, _, _ => ⟨by simp, by simp [szFrom]⟩
  | r :: rs, n, h0, h => by
    rw [szFrom] at h ⊢
    by_cases h1 : szRule r n < 0
    · rw [if_pos h1] at h; omega
    · rw [if_neg h1] at h ⊢
      obtain ⟨e, hb⟩ := szRule_ok h1
      obtain ⟨ha, hc⟩ := szFrom_ok rs _ (by omega) h
      refine ⟨fun x hx => ?_, by omega⟩
      rcases List.mem_cons.1 hx with rfl | hx
      · omega
      · have := ha x hx; omega
theorem szRules_ok {rs : List Rule} {n : Int} (h : ¬ szRules rs n < 0) : (rs.length : Int) ≤ n ∧ (∀ r ∈ rs, (r.left.length : Int) ≤ n ∧ (r.right.length : Int) ≤ n) ∧ szRules rs n ≤ n := by
  unfold szRules at h ⊢
  split at h
  · omega
  · rename_i h1
    rw [if_neg h1]
    obtain ⟨ha, hb⟩ := szFrom_ok rs _ (by omega) h
    exact ⟨by omega, fun r hr => by have := ha r hr; omega, by omega⟩

def longest : List Rule → Nat → Nat
  | [], n => n
  | r :: rs, n => longest rs (max n r.left.length)
theorem longest_drop {rs : List Rule} {k n : Nat} (h : k < rs.length) : longest (rs.drop k) n = longest (rs.drop (k + 1)) (max n rs[k].left.length) := by rw [List.drop_eq_getElem_cons h, longest]
def LongestSide (rs : List Rule) : Int := (longest rs 0 : Nat)

def notLess (r : Rule) : Bool := !IsLess r.right r.left
def ruleBad (k : Int) (r : Rule) : Bool := !SidesOk k r || decide (r.left = [])
def RulesOk (k : Int) (rs : List Rule) : Bool := within k 1 4 && (decide (rs.length ≤ 12) && !rs.any (ruleBad k))
def SystemOk (k : Int) (rs : List Rule) : Bool := RulesOk k rs && !rs.any notLess

end Go.Proofs.Ytlohpphmamapeaa.M
/-
  What the functions on steps compute, in plain words.
  Conditions: none; this text names no law.
-/
namespace Go.Proofs.Ytlohpphmamapeaa.M
set_option linter.unusedVariables false

/-- Whether a rule's left side lies at a place. -/
def hit (rs : List Rule) (l : List UInt8) (p k : Nat) : Bool := match rs[k]? with
  | some r => pre r.left (l.drop p)
  | none => false
def stepsRow (rs : List Rule) (l : List UInt8) (p : Nat) : Nat → List Step
  | 0 => []
  | k + 1 => stepsRow rs l p k ++ (if hit rs l p k then [⟨k, p⟩] else [])
def stepsTo (rs : List Rule) (l : List UInt8) : Nat → List Step
  | 0 => []
  | p + 1 => stepsTo rs l p ++ stepsRow rs l p rs.length
def StepsOf (k : Int) (rs : List Rule) (l : List UInt8) : List Step := if RulesOk k rs then stepsTo rs l l.length else []
theorem hit_at {rs : List Rule} {l : List UInt8} {p k : Nat} (h : k < rs.length) : hit rs l p k = pre rs[k].left (l.drop p) := by simp [hit, h]
theorem row_yes {rs : List Rule} {l : List UInt8} {p k : Nat} (h : hit rs l p k = true) : stepsRow rs l p (k + 1) = stepsRow rs l p k ++ [⟨k, p⟩] := by simp [stepsRow, h]
theorem row_no {rs : List Rule} {l : List UInt8} {p k : Nat} (h : hit rs l p k = false) : stepsRow rs l p (k + 1) = stepsRow rs l p k := by simp [stepsRow, h]
theorem row_len (rs : List Rule) (l : List UInt8) (p : Nat) : ∀ k, (stepsRow rs l p k).length ≤ k
  | 0 => by simp [stepsRow]
  | k + 1 => by
    have := row_len rs l p k
    unfold stepsRow
    split <;> simp <;> omega
theorem to_len (rs : List Rule) (l : List UInt8) : ∀ p, (stepsTo rs l p).length ≤ p * rs.length
  | 0 => by simp [stepsTo]
  | p + 1 => by
    have := to_len rs l p
    have := row_len rs l p rs.length
    simp only [stepsTo, List.length_append, Nat.add_mul, Nat.one_mul]
    omega
theorem row_mem {rs : List Rule} {l : List UInt8} {p : Nat} {x : Step} : ∀ {k}, x ∈ stepsRow rs l p k → ∃ i : Nat, i < k ∧ hit rs l p i = true ∧ x = ⟨i, p⟩
  | 0, h => by simp [stepsRow] at h
  | k + 1, h => by
    unfold stepsRow at h
    rcases List.mem_append.1 h with h | h
    · obtain ⟨i, hi, r⟩ := row_mem h
      exact ⟨i, by omega, r⟩
    · split at h
      · rename_i hh
        simp at h
        exact ⟨k, by omega, hh, h⟩
      · simp at h
theorem to_mem {rs : List Rule} {l : List UInt8} {x : Step} : ∀ {n}, x ∈ stepsTo rs l n → ∃ p i : Nat, p < n ∧ i < rs.length ∧ hit rs l p i = true ∧ x = ⟨i, p⟩
  | 0, h => by simp [stepsTo] at h
  | p + 1, h => by
    unfold stepsTo at h
    rcases List.mem_append.1 h with h | h
    · obtain ⟨q, i, hq, r⟩ := to_mem h
      exact ⟨q, i, by omega, r⟩
    · obtain ⟨i, hi, r⟩ := row_mem h
      exact ⟨p, i, by omega, hi, r⟩
theorem hit_lt {rs : List Rule} {l : List UInt8} {p k : Nat} (h : hit rs l p k = true) : ∃ hk : k < rs.length, pre rs[k].left (l.drop p) = true := by
  by_cases hk : k < rs.length
  · exact ⟨hk, by rw [← hit_at hk]; exact h⟩
  · simp [hit, hk] at h
theorem row_pre (rs : List Rule) (l : List UInt8) (p : Nat) : ∀ {i k : Nat}, i ≤ k → ∃ t, stepsRow rs l p k = stepsRow rs l p i ++ t
  | i, 0, h => ⟨[], by rw [show i = 0 by omega]; simp⟩
  | i, k + 1, h => by
    by_cases he : i = k + 1
    · exact ⟨[], by subst he; simp⟩
    · obtain ⟨t, ht⟩ := row_pre rs l p (i := i) (k := k) (by omega)
      exact ⟨t ++ _, by rw [stepsRow, ht, List.append_assoc]⟩
theorem to_pre (rs : List Rule) (l : List UInt8) : ∀ {i n : Nat}, i ≤ n → ∃ t, stepsTo rs l n = stepsTo rs l i ++ t
  | i, 0, h => ⟨[], by rw [show i = 0 by omega]; simp⟩
  | i, n + 1, h => by
    by_cases he : i = n + 1
    · exact ⟨[], by subst he; simp⟩
    · obtain ⟨t, ht⟩ := to_pre rs l (i := i) (n := n) (by omega)
      exact ⟨t ++ _, by rw [stepsTo, ht, List.append_assoc]⟩

/-- The first step, and whether there is one. -/
def first (xs : List Step) : Step × Bool := match xs with
  | [] => (⟨0, 0⟩, false)
  | x :: _ => (x, true)
theorem first_hit {rs : List Rule} {l : List UInt8} {p k : Nat} (hp : p < l.length) (h0 : stepsTo rs l p = []) (h1 : stepsRow rs l p k = []) (hh : hit rs l p k = true) : first (stepsTo rs l l.length) = (⟨k, p⟩, true) := by
  obtain ⟨t, ht⟩ := to_pre rs l (i := p + 1) (n := l.length) (by omega)
  obtain ⟨hk, _⟩ := hit_lt hh
  obtain ⟨t', ht'⟩ := row_pre rs l p (i := k + 1) (k := rs.length) (by omega)
  rw [ht, stepsTo, h0, ht', row_yes hh, h1]
  rfl
/-- The last step that the reference keeps. -/
def lastStep : List Step → Step × Bool → Step × Bool
  | [], b => b
  | x :: xs, b => lastStep xs (if b.2 = false ∨ b.1.place < x.place then (x, true) else b)
def last (xs : List Step) : Step × Bool := lastStep xs (⟨0, 0⟩, false)
theorem lastStep_add (xs ys : List Step) (b : Step × Bool) : lastStep (xs ++ ys) b = lastStep ys (lastStep xs b) := by
  induction xs generalizing b with
  | nil => rfl
  | cons x xs ih => rw [List.cons_append, lastStep, lastStep, ih]
theorem lastStep_keep {xs : List Step} {b : Step × Bool} (hb : b.2 = true) (h : ∀ x ∈ xs, x.place ≤ b.1.place) : lastStep xs b = b := by
  induction xs with
  | nil => rfl
  | cons x xs ih =>
    have := h x (by simp)
    rw [lastStep, if_neg (by simp [hb]; omega)]
    exact ih fun y hy => h y (by simp [hy])
theorem lastStep_in {xs : List Step} {b : Step × Bool} {n : Int} (hb : b.2 = true → b.1.place < n) (h : ∀ x ∈ xs, x.place < n) : (lastStep xs b).2 = true → (lastStep xs b).1.place < n := by
  induction xs generalizing b with
  | nil => exact hb
  | cons x xs ih =>
    rw [lastStep]
    apply ih
    · have := h x (by simp)
      split
      · exact fun _ => this
      · exact hb
    · exact fun y hy => h y (by simp [hy])
theorem last_in {rs : List Rule} {l : List UInt8} {p : Nat} : (last (stepsTo rs l p)).2 = true → (last (stepsTo rs l p)).1.place < p := by
  apply lastStep_in
  · simp
  · intro x hx
    obtain ⟨q, i, hq, _, _, rfl⟩ := to_mem hx
    simp
    omega
theorem last_no {rs : List Rule} {l : List UInt8} {p : Nat} (h : stepsRow rs l p rs.length = []) : last (stepsTo rs l (p + 1)) = last (stepsTo rs l p) := by
  rw [stepsTo, h, List.append_nil]
theorem last_hit {rs : List Rule} {l : List UInt8} {p k : Nat} (h1 : stepsRow rs l p k = []) (hh : hit rs l p k = true) : last (stepsTo rs l (p + 1)) = (⟨k, p⟩, true) := by
  obtain ⟨hk, _⟩ := hit_lt hh
  obtain ⟨t, ht⟩ := row_pre rs l p (i := k + 1) (k := rs.length) (by omega)
  have hin := last_in (rs := rs) (l := l) (p := p)
  have hm : ∀ x ∈ t, x.place ≤ p := fun x hx => by
    have : x ∈ stepsRow rs l p rs.length := by rw [ht]; simp [hx]
    obtain ⟨i, _, _, rfl⟩ := row_mem this
    simp
  rw [stepsTo, last, lastStep_add, ht, row_yes hh, h1, List.nil_append, List.singleton_append, lastStep]
  rw [if_pos, lastStep_keep rfl hm]
  · revert hin
    unfold last
    generalize lastStep (stepsTo rs l p) (⟨0, 0⟩, false) = b
    intro hin
    cases hb : b.2
    · exact Or.inl rfl
    · exact Or.inr (by simpa using hin hb)
theorem row_nil_mono {rs : List Rule} {l : List UInt8} {p i k : Nat} (hik : i ≤ k) (h : stepsRow rs l p k = []) : stepsRow rs l p i = [] := by
  obtain ⟨t, ht⟩ := row_pre rs l p hik
  rw [h] at ht
  exact (List.append_eq_nil_iff.1 ht.symm).1

end Go.Proofs.Ytlohpphmamapeaa.M
/-
  Contracts of the functions on words: each call returns what the plain function of the same name gives.
  Conditions: lengths of at most 2^20.
-/
namespace Go.Proofs.Ytlohpphmamapeaa
open Go.RowKit
set_option linter.unusedVariables false

set_option maxHeartbeats 400000 in
theorem within_c (n lo hi : Int) (w : World) : Calls Try.prog 89 #[.int .i64 n, .int .i64 lo, .int .i64 hi] w fun e w' => e = .returned (.bool (M.within n lo hi)) ∧ w = w' := by
  unfold M.within
  by_cases h1 : lo ≤ n <;> by_cases h2 : n ≤ hi
  all_goals
    go_enter Try.func89, Try.ntmps89
    go_wp2
    go_ret
    exact ⟨by simp [*], rfl⟩
set_option maxHeartbeats 400000 in
theorem l01In_c (n lo hi : Int) (w : World) : Calls Try.prog 87 #[.int .i64 n, .int .i64 lo, .int .i64 hi] w fun e w' => e = .returned (.bool (M.within n lo hi)) ∧ w = w' := by
  unfold M.within
  by_cases h1 : lo ≤ n <;> by_cases h2 : n ≤ hi
  all_goals
    go_enter Try.func87, Try.ntmps87
    go_wp2
    go_ret
    exact ⟨by simp [*], rfl⟩

set_option maxHeartbeats 400000 in
theorem spec_IsDigits_c (l : List UInt8) (w : World) (hl : l.length ≤ 1048576) : Calls Try.prog 194 #[.string ⟨l.toArray⟩] w fun e w' => e = .returned (.bool (M.IsDigits l)) ∧ w = w' := by
  go_enter Try.func194, Try.ntmps194
  go_wp2
  go_loop [3] (fun i => ∃ k : Nat, k ≤ l.length ∧ (l.take k).all M.isDig = true ∧ i = .int .i64 k) (fun i => l.length - (intOf i).toNat)
  case atStart => exact ⟨0, by omega, by simp, rfl⟩
  case round =>
    obtain ⟨k, hk, ha, rfl⟩ := hrel
    have HA := Lib.hid ha
    clear ha
    by_cases hlt : k < l.length
    · by_cases h1 : (48 : Int) ≤ (l[k].toNat : Int)
      · by_cases h2 : (l[k].toNat : Int) ≤ 57
        · go_wp2
          go_round
          case rel => exact ⟨k + 1, by omega, by rw [M.all_take_succ _ _ _ hlt, HA.out]; simp [M.isDig, h1, h2], by go_num⟩
          case measure => simp [intOf]; omega
        · go_wp2
          go_ret
          exact ⟨ret_bool (by rw [M.IsDigits, M.all_false_of M.isDig l k hlt (by simp [M.isDig]; omega)]; simp), rfl⟩
      · go_wp2
        go_ret
        exact ⟨ret_bool (by rw [M.IsDigits, M.all_false_of M.isDig l k hlt (by simp [M.isDig]; omega)]; simp), rfl⟩
    · go_wp2
      go_ret
      exact ⟨ret_bool (by rw [M.IsDigits, M.all_of_take _ _ _ (by omega) HA.out]; cases l <;> simp), rfl⟩

theorem replace_no (w : List UInt8) (p n : Int) (b : List UInt8) (h : p < 0 ∨ n < 0 ∨ p > w.length ∨ n > w.length - p ∨ w.length - n + b.length > 16) : M.ReplaceAt w p n b = ([], false) := if_pos h
theorem replace_yes (w : List UInt8) (p n : Int) (b : List UInt8) (h : ¬ (p < 0 ∨ n < 0 ∨ p > w.length ∨ n > w.length - p ∨ w.length - n + b.length > 16)) :
    M.ReplaceAt w p n b = (w.take p.toNat ++ (b ++ w.drop (p + n).toNat), true) := if_neg h
set_option maxHeartbeats 1000000 in
theorem spec_ReplaceAt_c (l : List UInt8) (p n : Int) (b : List UInt8) (w : World) (hl : l.length ≤ 1048576) (hb : b.length ≤ 1048576) :
    Calls Try.prog 172 #[.string ⟨l.toArray⟩, .int .i64 p, .int .i64 n, .string ⟨b.toArray⟩] w fun e w' => e = .returned (.tuple #[.string ⟨(M.ReplaceAt l p n b).1.toArray⟩, .bool (M.ReplaceAt l p n b).2]) ∧ ∃ k, w' = w.drewN k := by
  by_cases h1 : p < 0
  · rw [replace_no l p n b (by omega)]
    go_enter Try.func172, Try.ntmps172
    go_wp2
    go_ret2
    exact ⟨rfl, 0, rfl⟩
  by_cases h2 : n < 0
  · rw [replace_no l p n b (by omega)]
    go_enter Try.func172, Try.ntmps172
    go_wp2
    go_ret2
    exact ⟨rfl, 0, rfl⟩
  by_cases h3 : (l.length : Int) < p
  · rw [replace_no l p n b (by omega)]
    go_enter Try.func172, Try.ntmps172
    go_wp2
    go_ret2
    exact ⟨rfl, 0, rfl⟩
  by_cases h4 : (l.length : Int) - p < n
  · rw [replace_no l p n b (by omega)]
    go_enter Try.func172, Try.ntmps172
    go_wp2
    go_ret2
    exact ⟨rfl, 0, rfl⟩
  by_cases h5 : 16 < (l.length : Int) - n + b.length
  · rw [replace_no l p n b (by omega)]
    go_enter Try.func172, Try.ntmps172
    go_wp2
    go_ret2
    exact ⟨rfl, 0, rfl⟩
  rw [replace_yes l p n b (by omega)]
  obtain ⟨p, rfl⟩ := Int.eq_ofNat_of_zero_le (show 0 ≤ p by omega)
  obtain ⟨n, rfl⟩ := Int.eq_ofNat_of_zero_le (show 0 ≤ n by omega)
  go_enter Try.func172, Try.ntmps172
  go_wp2
  go_quiet (fail)
  go_wp2
  go_ret2
  exact ⟨rfl, nq, rfl⟩

set_option maxHeartbeats 1000000 in
theorem impl_ReplaceAt_c (l : List UInt8) (p n : Int) (b : List UInt8) (w : World) (hl : l.length ≤ 1048576) (hb : b.length ≤ 1048576) :
    Calls Try.prog 153 #[.string ⟨l.toArray⟩, .int .i64 p, .int .i64 n, .string ⟨b.toArray⟩] w fun e w' => e = .returned (.tuple #[.string ⟨(M.ReplaceAt l p n b).1.toArray⟩, .bool (M.ReplaceAt l p n b).2]) ∧ ∃ k, w' = w.drewN k := by
  by_cases h1 : p < 0
  · rw [replace_no l p n b (by omega)]
    go_enter Try.func153, Try.ntmps153
    go_wp2
    go_ret2
    exact ⟨rfl, 0, rfl⟩
  by_cases h2 : n < 0
  · rw [replace_no l p n b (by omega)]
    go_enter Try.func153, Try.ntmps153
    go_wp2
    go_ret2
    exact ⟨rfl, 0, rfl⟩
  by_cases h3 : (l.length : Int) < p
  · rw [replace_no l p n b (by omega)]
    go_enter Try.func153, Try.ntmps153
    go_wp2
    go_ret2
    exact ⟨rfl, 0, rfl⟩
  by_cases h4 : (l.length : Int) - p < n
  · rw [replace_no l p n b (by omega)]
    go_enter Try.func153, Try.ntmps153
    go_wp2
    go_ret2
    exact ⟨rfl, 0, rfl⟩
  by_cases h5 : 16 < (l.length : Int) - n + b.length
  · rw [replace_no l p n b (by omega)]
    go_enter Try.func153, Try.ntmps153
    go_wp2
    go_ret2
    exact ⟨rfl, 0, rfl⟩
  rw [replace_yes l p n b (by omega)]
  obtain ⟨p, rfl⟩ := Int.eq_ofNat_of_zero_le (show 0 ≤ p by omega)
  obtain ⟨n, rfl⟩ := Int.eq_ofNat_of_zero_le (show 0 ≤ n by omega)
  go_enter Try.func153, Try.ntmps153
  go_wp2
  go_quiet (fail)
  go_wp2
  go_ret2
  exact ⟨rfl, nq, rfl⟩


end Go.Proofs.Ytlohpphmamapeaa
/-
  Contracts of WordOk: each call returns what the plain function of the same name gives.
  Conditions: lengths of at most 2^20.
-/
namespace Go.Proofs.Ytlohpphmamapeaa
open Go.RowKit
set_option linter.unusedVariables false

set_option maxRecDepth 100000 in
set_option maxHeartbeats 1000000 in
theorem hasLetters_c (k : Int) (l : List UInt8) (w : World) (hl : l.length ≤ 1048576) (hk1 : 1 ≤ k) (hk2 : k ≤ 4) : Calls Try.prog 163 #[.int .i64 k, .string ⟨l.toArray⟩] w fun e w' => e = .returned (.bool (M.hasLetters k l)) ∧ w = w' := by
  go_enter Try.func163, Try.ntmps163
  go_wp2
  go_loop [5, 8] (fun _ i => ∃ j : Nat, j ≤ l.length ∧ (l.take j).all (M.isLetter k) = true ∧ i = .int .i64 j) (fun _ i => l.length - (intOf i).toNat)
  case atStart => exact ⟨0, by omega, by simp, rfl⟩
  case round =>
    obtain ⟨j, hj, ha, rfl⟩ := hrel
    have HA := Lib.hid ha
    clear ha
    by_cases hlt : j < l.length
    · have HX := Lib.hid (M.isLetter_within k l[j])
      have hu := u8_lt l[j]
      by_cases hx : (97 : Int) ≤ (l[j].toNat : Int) ∧ (l[j].toNat : Int) ≤ 97 + k - 1
      · have hd := HX.out.trans (M.isLetter_true (c := l[j]) (by omega))
        have HD := Lib.hid (M.isLetter_true (c := l[j]) hx)
        go_wp2_with (go_at_call 89; refine (within_c _ _ _ _).mono ?_; rintro e w' ⟨rfl, rfl⟩)
        go_round
        case rel => exact ⟨j + 1, by omega, by rw [M.all_take_succ _ _ _ hlt, HA.out, HD.out]; rfl, by go_num⟩
        case measure => simp [intOf]; omega
      · have hd := HX.out.trans (M.isLetter_false (c := l[j]) (by omega))
        have HD := Lib.hid (M.isLetter_false (k := k) (c := l[j]) (by omega))
        go_wp2_with (go_at_call 89; refine (within_c _ _ _ _).mono ?_; rintro e w' ⟨rfl, rfl⟩)
        go_ret
        exact ⟨ret_bool (by rw [M.hasLetters, M.all_false_of _ l j hlt HD.out]), rfl⟩
    · go_wp2
      go_ret
      exact ⟨ret_bool (by rw [M.hasLetters, M.all_of_take _ _ _ (by omega) HA.out]), rfl⟩
set_option maxRecDepth 100000 in
set_option maxHeartbeats 1000000 in
theorem impl_WordOk_c (k : Int) (l : List UInt8) (w : World) (hl : l.length ≤ 1048576) : Calls Try.prog 118 #[.int .i64 k, .string ⟨l.toArray⟩] w fun e w' => e = .returned (.bool (M.WordOk k l)) ∧ w = w' := by
  by_cases hw : 1 ≤ k ∧ k ≤ 4
  · by_cases h3 : l.length ≤ 16
    · rw [M.wordOk_short k l hw h3]
      have HW := M.within_yes k hw
      obtain ⟨h1, h2⟩ := hw
      go_enter Try.func118, Try.ntmps118
      go_wp2_with (first | (go_at_call 89; refine (within_c _ _ _ _).mono ?_; rintro e w' ⟨rfl, rfl⟩) | (go_at_call 163; refine (hasLetters_c _ _ _ hl h1 h2).mono ?_; rintro e w' ⟨rfl, rfl⟩))
      go_ret
      exact ⟨rfl, rfl⟩
    · rw [M.wordOk_no k l (Or.inr (by omega))]
      have HW := M.within_yes k hw
      go_enter Try.func118, Try.ntmps118
      go_wp2_with (first | (go_at_call 89; refine (within_c _ _ _ _).mono ?_; rintro e w' ⟨rfl, rfl⟩))
      go_ret
      exact ⟨rfl, rfl⟩
  · rw [M.wordOk_no k l (Or.inl hw)]
    have HW := M.within_no k hw
    clear hw
    go_enter Try.func118, Try.ntmps118
    go_wp2_with (first | (go_at_call 89; refine (within_c _ _ _ _).mono ?_; rintro e w' ⟨rfl, rfl⟩))
    go_ret
    exact ⟨rfl, rfl⟩
set_option maxRecDepth 100000 in
set_option maxHeartbeats 1000000 in
theorem spec_WordOk_c (k : Int) (l : List UInt8) (w : World) (hl : l.length ≤ 1048576) : Calls Try.prog 143 #[.int .i64 k, .string ⟨l.toArray⟩] w fun e w' => e = .returned (.bool (M.WordOk k l)) ∧ w = w' := by
  by_cases hw : 1 ≤ k ∧ k ≤ 4
  · by_cases h3 : l.length ≤ 16
    · rw [M.wordOk_short k l hw h3]
      have HW := M.within_yes k hw
      obtain ⟨h1, h2⟩ := hw
      go_enter Try.func143, Try.ntmps143
      go_wp2_with (first | (go_at_call 87; refine (l01In_c _ _ _ _).mono ?_; rintro e w' ⟨rfl, rfl⟩))
      go_loop [5] (fun i => ∃ j : Nat, j ≤ l.length ∧ (l.take j).all (M.isLetter k) = true ∧ i = .int .i64 j) (fun i => l.length - (intOf i).toNat)
      case atStart => exact ⟨0, by omega, by simp, rfl⟩
      case round =>
        obtain ⟨j, hj, ha, rfl⟩ := hrel
        have HA := Lib.hid ha
        clear ha
        by_cases hlt : j < l.length
        · have hu := u8_lt l[j]
          by_cases hx : (97 : Int) ≤ (l[j].toNat : Int)
          · by_cases hy : (l[j].toNat : Int) ≤ 97 + k - 1
            · go_wp2
              go_round
              case rel => exact ⟨j + 1, by omega, by rw [M.all_take_succ _ _ _ hlt, HA.out, M.isLetter_true (by omega)]; rfl, by go_num⟩
              case measure => simp [intOf]; omega
            · go_wp2
              go_ret
              exact ⟨ret_bool (by rw [M.hasLetters, M.all_false_of _ l j hlt (M.isLetter_false (by omega))]), rfl⟩
          · go_wp2
            go_ret
            exact ⟨ret_bool (by rw [M.hasLetters, M.all_false_of _ l j hlt (M.isLetter_false (by omega))]), rfl⟩
        · go_wp2
          go_ret
          exact ⟨ret_bool (by rw [M.hasLetters, M.all_of_take _ _ _ (by omega) HA.out]), rfl⟩
    · rw [M.wordOk_no k l (Or.inr (by omega))]
      have HW := M.within_yes k hw
      go_enter Try.func143, Try.ntmps143
      go_wp2_with (first | (go_at_call 87; refine (l01In_c _ _ _ _).mono ?_; rintro e w' ⟨rfl, rfl⟩))
      go_ret
      exact ⟨rfl, rfl⟩
  · rw [M.wordOk_no k l (Or.inl hw)]
    have HW := M.within_no k hw
    clear hw
    go_enter Try.func143, Try.ntmps143
    go_wp2_with (first | (go_at_call 87; refine (l01In_c _ _ _ _).mono ?_; rintro e w' ⟨rfl, rfl⟩))
    go_ret
    exact ⟨rfl, rfl⟩

end Go.Proofs.Ytlohpphmamapeaa
/-
  Contracts of the functions on single rules: their text, their copy, their size.
  Conditions: lengths of at most 2^20.
-/
namespace Go.Proofs.Ytlohpphmamapeaa
open Go.RowKit
set_option linter.unusedVariables false

set_option maxRecDepth 100000 in
set_option maxHeartbeats 1000000 in
theorem l03Side_c (l : List UInt8) (w : World) : Calls Try.prog 212 #[.string ⟨l.toArray⟩] w fun e w' => e = .returned (.string ⟨(M.dotted l).toArray⟩) ∧ w = w' := by
  cases l with
  | nil =>
    go_enter Try.func212, Try.ntmps212
    go_wp2
    go_ret
    exact ⟨rfl, rfl⟩
  | cons a r =>
    go_enter Try.func212, Try.ntmps212
    go_wp2
    go_ret
    exact ⟨rfl, rfl⟩
set_option maxRecDepth 100000 in
set_option maxHeartbeats 1000000 in
theorem spec_FormatRule_c (l r : List UInt8) (w : World) (hl : l.length ≤ 1048576) (hr : r.length ≤ 1048576) : Calls Try.prog 196 #[.agg #[.string ⟨l.toArray⟩, .string ⟨r.toArray⟩]] w fun e w' => e = .returned (.string ⟨(M.FormatRule ⟨l, r⟩).toArray⟩) ∧ Below w.heap.size w w' := by
  unfold M.FormatRule
  have h1 := M.dotted_len l
  have h2 := M.dotted_len r
  go_enter Try.func196, Try.ntmps196
  go_wp2_with fail
  go_quiet ((go_at_call 212; exact Calls.quiet_of_same (quiet1 (l03Side_c _ _))))
  go_wp2_with fail
  go_ret
  exact ⟨rfl, below_drewN ((Below.refl _ _).alloc (Nat.le_refl _) _) _⟩
set_option maxRecDepth 100000 in
set_option maxHeartbeats 1000000 in
theorem toRule_c (l r : List UInt8) (w : World) : Calls Try.prog 108 #[.agg #[.string ⟨l.toArray⟩, .string ⟨r.toArray⟩]] w fun e w' => e = .returned (.agg #[.string ⟨l.toArray⟩, .string ⟨r.toArray⟩]) ∧ Below w.heap.size w w' := by
  go_enter Try.func108, Try.ntmps108
  go_wp2
  refine bodyPost_ret (v := .agg #[.string ⟨l.toArray⟩, .string ⟨r.toArray⟩]) (by simp [results, Try.results108, go_sem]) rfl ⟨rfl, ?_⟩
  repeat' (first | exact Below.refl _ _ | (refine Below.alloc ?_ (by simp <;> omega) _) | (refine Below.setCell ?_ (by simp <;> omega) _))
set_option maxRecDepth 100000 in
set_option maxHeartbeats 1000000 in
theorem szRule_c (l r : List UInt8) (n : Int) (w : World) (hl : l.length ≤ 9223372036854775807) (hr : r.length ≤ 9223372036854775807) (hn : n ≤ 1048576) (hn0 : 0 ≤ n) : Calls Try.prog 106 #[.agg #[.string ⟨l.toArray⟩, .string ⟨r.toArray⟩], .int .i64 n] w fun e w' => e = .returned (.int .i64 (M.szRule ⟨l, r⟩ n)) ∧ Below w.heap.size w w' := by
  by_cases h1 : n - l.length < 0
  · have e1 : M.szRule ⟨l, r⟩ n = -1 := by unfold M.szRule; rw [if_pos h1]
    rw [e1]
    go_enter Try.func106, Try.ntmps106
    go_wp2
    go_ret
    exact ⟨rfl, (Below.refl _ _).alloc (Nat.le_refl _) _⟩
  · by_cases h2 : n - l.length - r.length < 0
    · have e1 : M.szRule ⟨l, r⟩ n = -1 := by unfold M.szRule; rw [if_neg h1, if_pos h2]
      rw [e1]
      go_enter Try.func106, Try.ntmps106
      go_wp2
      go_ret
      exact ⟨rfl, (Below.refl _ _).alloc (Nat.le_refl _) _⟩
    · have e1 : M.szRule ⟨l, r⟩ n = n - l.length - r.length := by unfold M.szRule; rw [if_neg h1, if_neg h2]
      rw [e1]
      go_enter Try.func106, Try.ntmps106
      go_wp2
      go_ret
      exact ⟨rfl, (Below.refl _ _).alloc (Nat.le_refl _) _⟩

end Go.Proofs.Ytlohpphmamapeaa
/-
  Contracts of IsLess and of what it calls.
  Conditions: lengths of at most 2^40.
-/
namespace Go.Proofs.Ytlohpphmamapeaa
open Go.RowKit
set_option linter.unusedVariables false

set_option maxRecDepth 100000 in
set_option maxHeartbeats 1000000 in
theorem spec_IsLess_c (u v : List UInt8) (w : World) (hu : u.length ≤ 1099511627776) (hv : v.length ≤ 1099511627776) :
    Calls Try.prog 97 #[.string ⟨u.toArray⟩, .string ⟨v.toArray⟩] w fun e w' => e = .returned (.bool (M.IsLess u v)) ∧ w = w' := by
  unfold M.IsLess
  by_cases h : u.length = v.length
  · have h1 : ((u.length : Int) != (v.length : Int)) = false := by simp [h]
    rw [show (decide (u.length < v.length) || (decide (u.length = v.length) && Op.bytesLess u v)) = Op.bytesLess u v by simp [h]]
    clear h
    go_enter Try.func97, Try.ntmps97
    go_wp2
    go_ret
    exact ⟨rfl, rfl⟩
  · have h1 : ((u.length : Int) != (v.length : Int)) = true := by rw [bne_iff_ne]; omega
    rw [show (decide (u.length < v.length) || (decide (u.length = v.length) && Op.bytesLess u v)) = decide ((u.length : Int) < v.length) by simp [h]]
    clear h
    go_enter Try.func97, Try.ntmps97
    go_wp2
    go_ret
    exact ⟨ret_bool (by simp), rfl⟩
set_option maxRecDepth 100000 in
set_option maxHeartbeats 1000000 in
theorem compareInt_c (a b : Int) (w : World) : Calls Try.prog 182 #[.int .i64 a, .int .i64 b] w fun e w' => e = .returned (.int .i64 (M.cmpI a b)) ∧ w = w' := by
  unfold M.cmpI
  by_cases h1 : a < b
  · rw [if_pos h1]
    go_enter Try.func182, Try.ntmps182
    go_wp2
    go_ret
    exact ⟨rfl, rfl⟩
  · rw [if_neg h1]
    by_cases h2 : b < a
    · rw [if_pos h2]
      go_enter Try.func182, Try.ntmps182
      go_wp2
      go_ret
      exact ⟨rfl, rfl⟩
    · rw [if_neg h2]
      go_enter Try.func182, Try.ntmps182
      go_wp2
      go_ret
      exact ⟨rfl, rfl⟩
set_option maxRecDepth 100000 in
set_option maxHeartbeats 1000000 in
theorem compareString_c (u v : List UInt8) (w : World) : Calls Try.prog 183 #[.string ⟨u.toArray⟩, .string ⟨v.toArray⟩] w fun e w' => e = .returned (.int .i64 (M.cmpB u v)) ∧ w = w' := by
  unfold M.cmpB
  by_cases h1 : Op.bytesLess u v = true
  · rw [if_pos h1]
    go_enter Try.func183, Try.ntmps183
    go_wp2
    go_ret
    exact ⟨rfl, rfl⟩
  · rw [if_neg h1]
    have h1' : Op.bytesLess u v = false := by simpa using h1
    clear h1
    by_cases h2 : u = v
    · rw [if_pos h2]
      subst h2
      go_enter Try.func183, Try.ntmps183
      go_wp2
      go_ret
      exact ⟨rfl, rfl⟩
    · rw [if_neg h2]
      have h2' : (u == v) = false := by simpa using h2
      clear h2
      go_enter Try.func183, Try.ntmps183
      go_wp2
      go_ret
      exact ⟨rfl, rfl⟩
set_option maxRecDepth 100000 in
set_option maxHeartbeats 1000000 in
theorem orInt_c (x y : Int) (b : Nat) (w : World) (h0 : w.cell? ⟨b, 0, none⟩ = some (.int .i64 x)) (h1 : w.cell? ⟨b, 1, none⟩ = some (.int .i64 y)) :
    Calls Try.prog 181 #[.slice (some ⟨b, 0, none⟩) 2 2] w fun e w' => e = .returned (.int .i64 (M.orI x y)) ∧ Below w.heap.size w w' := by
  go_enter Try.func181, Try.ntmps181
  go_wp2
  go_loopw [5, 8] (fun _ i wr => ∃ k : Nat, k ≤ 2 ∧ i = .int .i64 k ∧ (0 < k → x = 0) ∧ (1 < k → y = 0) ∧ ∃ m, wr = w.drewN m) (fun _ i _ => 2 - (intOf i).toNat)
  case atStart => exact ⟨0, by omega, rfl, by omega, by omega, 0, rfl⟩
  case round =>
    obtain ⟨k, hk, rfl, hx, hy, m, rfl⟩ := hrel
    have HX := Lib.hid hx
    have HY := Lib.hid hy
    clear hx hy
    match k, hk with
    | 0, _ =>
      by_cases hz : x = 0
      · subst hz
        go_wp2
        go_roundw
        case rel => exact ⟨1, by omega, by go_num, by simp, by omega, _, rfl⟩
        case measure => simp [intOf]
      · have hz' : (x != 0) = true := by rw [bne_iff_ne]; exact hz
        have HZ := Lib.hid hz
        clear hz
        go_wp2
        go_ret
        exact ⟨ret_int (by unfold M.orI; rw [if_neg HZ.out]), by repeat (first | exact Below.refl _ _ | refine below_drewN ?_ _ | refine Below.drew ?_)⟩
    | 1, _ =>
      have hx0 : x = 0 := HX.out (by omega)
      subst hx0
      by_cases hz : y = 0
      · subst hz
        go_wp2
        go_roundw
        case rel => exact ⟨2, by omega, by go_num, by simp, by simp, _, rfl⟩
        case measure => simp [intOf]
      · have hz' : (y != 0) = true := by rw [bne_iff_ne]; exact hz
        clear hz
        go_wp2
        go_ret
        exact ⟨ret_int (by simp [M.orI]), by repeat (first | exact Below.refl _ _ | refine below_drewN ?_ _ | refine Below.drew ?_)⟩
    | 2, _ =>
      have hx0 : x = 0 := HX.out (by omega)
      have hy0 : y = 0 := HY.out (by omega)
      subst hx0 hy0
      go_wp2
      go_ret
      exact ⟨ret_int (by simp [M.orI]), by repeat (first | exact Below.refl _ _ | refine below_drewN ?_ _ | refine Below.drew ?_)⟩
set_option maxRecDepth 100000 in
set_option maxHeartbeats 1000000 in
theorem compareWords_c (u v : List UInt8) (w : World) (hu : u.length ≤ 1099511627776) (hv : v.length ≤ 1099511627776) :
    Calls Try.prog 165 #[.string ⟨u.toArray⟩, .string ⟨v.toArray⟩] w fun e w' => e = .returned (.int .i64 (M.cmpW u v)) ∧ Below w.heap.size w w' := by
  unfold M.cmpW
  have h1 := fun W => compareInt_c (u.length : Int) (v.length : Int) W
  have h2 := fun W => compareString_c u v W
  generalize M.cmpI (u.length : Int) (v.length : Int) = x at *
  generalize M.cmpB u v = y at *
  have H1 := Lib.hid h1
  have H2 := Lib.hid h2
  clear h1 h2
  go_enter Try.func165, Try.ntmps165
  go_wp2_with fail
  refine (H1.out _).mono ?_
  rintro e w1 ⟨rfl, rfl⟩
  go_wp2_with fail
  refine (H2.out _).mono ?_
  rintro e w2 ⟨rfl, rfl⟩
  go_wp2_with fail
  refine (orInt_c x y w.heap.size _ (by simp) (by simp)).mono ?_
  rintro e w3 ⟨rfl, hb⟩
  go_wp2_with fail
  go_ret
  exact ⟨rfl, ((Below.refl _ _).alloc (Nat.le_refl _) _).trans (hb.mono (by simp))⟩
set_option maxRecDepth 100000 in
set_option maxHeartbeats 1000000 in
theorem impl_IsLess_c (u v : List UInt8) (w : World) (hu : u.length ≤ 1099511627776) (hv : v.length ≤ 1099511627776) :
    Calls Try.prog 124 #[.string ⟨u.toArray⟩, .string ⟨v.toArray⟩] w fun e w' => e = .returned (.bool (M.IsLess u v)) ∧ Below w.heap.size w w' := by
  rw [← M.less_cmp]
  have H1 := Lib.hid (fun W => compareWords_c u v W hu hv)
  go_enter Try.func124, Try.ntmps124
  go_wp2_with fail
  refine (H1.out _).mono ?_
  rintro e w1 ⟨rfl, hb⟩
  go_wp2_with fail
  go_ret
  exact ⟨rfl, hb⟩

end Go.Proofs.Ytlohpphmamapeaa
/-
  Every plain contract's memory fact as Below.
  Conditions: none.
-/
namespace Go.Proofs.Ytlohpphmamapeaa
open Go.RowKit

theorem toBelow1 {p : Program} {f : Nat} {a : Array Value} {w : World} {x : Ending} (h : Calls p f a w fun e w' => e = x ∧ w = w') : Calls p f a w fun e w' => e = x ∧ Below w.heap.size w w' :=
  h.mono fun _ _ h => ⟨h.1, h.2 ▸ Below.refl _ _⟩
theorem toBelow2 {p : Program} {f : Nat} {a : Array Value} {w : World} {x : Ending} (h : Calls p f a w fun e w' => e = x ∧ ∃ k, w' = w.drewN k) : Calls p f a w fun e w' => e = x ∧ Below w.heap.size w w' :=
  h.mono fun _ _ h => ⟨h.1, by obtain ⟨k, rfl⟩ := h.2; exact below_drewN (Below.refl _ _) k⟩
theorem toBelow {p : Program} {f : Nat} {a : Array Value} {w : World} {x : Ending} (h : Calls p f a w fun e w' => e = x ∧ Below w.heap.size w w') : Calls p f a w fun e w' => e = x ∧ Below w.heap.size w w' := h

theorem allocKeep1 {w : World} {b o : Nat} {u : Value} (h : w.cell? ⟨b, o, none⟩ = some u) (x : Obj) : (w.alloc x).cell? ⟨b, o, none⟩ = some u :=
  (((Below.refl w.heap.size w).alloc (Nat.le_refl _) x).cell (p := ⟨b, o, none⟩) (World.block_lt_of_cell? w _ h)).trans h
theorem allocKeep2 {w : World} {b o : Nat} {u : Value} (h : w.cell? ⟨b, o, none⟩ = some u) (x y : Obj) : ((w.alloc x).alloc y).cell? ⟨b, o, none⟩ = some u := allocKeep1 (allocKeep1 h x) y

end Go.Proofs.Ytlohpphmamapeaa
/-
  Contracts of SidesOk, OrientRule and of equality of rules.
  Conditions: lengths of at most 2^20.
-/
namespace Go.Proofs.Ytlohpphmamapeaa
open Go.RowKit
set_option linter.unusedVariables false

theorem cell_two {w : World} {b : Nat} {u : Value} (d : w.cell? ⟨b, 1, none⟩ = some u) (v1 v2 : Value) : ((w.setCell ⟨b, 0, none⟩ v1).setCell ⟨b, 1, none⟩ v2).cell? ⟨b, 1, none⟩ = some v2 :=
  cell_set_eq v2 ((cell_set_ne v1 (Or.inr (by decide))).trans d)

set_option maxRecDepth 100000 in
set_option maxHeartbeats 2000000 in
theorem impl_SidesOk_c (k : Int) (l r : List UInt8) (w : World) (hl : l.length ≤ 1048576) (hr : r.length ≤ 1048576) : Calls Try.prog 116 #[.int .i64 k, .agg #[.string ⟨l.toArray⟩, .string ⟨r.toArray⟩]] w fun e w' => e = .returned (.bool (M.SidesOk k ⟨l, r⟩)) ∧ Below w.heap.size w w' := by
  unfold M.SidesOk
  have h1 := Lib.hid (fun W => impl_WordOk_c k l W hl)
  have h2 := Lib.hid (fun W => impl_WordOk_c k r W hr)
  generalize M.WordOk k l = x at *
  generalize M.WordOk k r = y at *
  obtain ⟨v, hv⟩ : ∃ v, v = decide ((r.length : Int) ≤ 8) := ⟨_, rfl⟩
  obtain ⟨u, hu⟩ : ∃ u, u = decide ((l.length : Int) ≤ 8) := ⟨_, rfl⟩
  simp only [← hu, ← hv]
  replace hu := hu.symm
  replace hv := hv.symm
  cases x
  case false =>
    clear hu hv
    go_enter Try.func116, Try.ntmps116
    go_wp2_with fail
    refine (h1.out _).mono ?_
    rintro e w' ⟨rfl, rfl⟩
    go_wp2_with fail
    go_ret
    exact ⟨rfl, (Below.refl _ _).alloc (Nat.le_refl _) _⟩
  cases y
  case false =>
    clear hu hv
    go_enter Try.func116, Try.ntmps116
    go_wp2_with fail
    refine (h1.out _).mono ?_
    rintro e w' ⟨rfl, rfl⟩
    go_wp2_with fail
    refine (h2.out _).mono ?_
    rintro e w' ⟨rfl, rfl⟩
    go_wp2_with fail
    go_ret
    exact ⟨rfl, (Below.refl _ _).alloc (Nat.le_refl _) _⟩
  cases u
  case false =>
    clear hv
    go_enter Try.func116, Try.ntmps116
    go_wp2_with fail
    refine (h1.out _).mono ?_
    rintro e w' ⟨rfl, rfl⟩
    go_wp2_with fail
    refine (h2.out _).mono ?_
    rintro e w' ⟨rfl, rfl⟩
    go_wp2_with fail
    go_ret
    exact ⟨rfl, (Below.refl _ _).alloc (Nat.le_refl _) _⟩
  cases v
  all_goals
    go_enter Try.func116, Try.ntmps116
    go_wp2_with fail
    refine (h1.out _).mono ?_
    rintro e w' ⟨rfl, rfl⟩
    go_wp2_with fail
    refine (h2.out _).mono ?_
    rintro e w' ⟨rfl, rfl⟩
    go_wp2_with fail
    go_ret
    exact ⟨rfl, (Below.refl _ _).alloc (Nat.le_refl _) _⟩
set_option maxRecDepth 100000 in
set_option maxHeartbeats 2000000 in
theorem spec_SidesOk_c (k : Int) (l r : List UInt8) (w : World) (hl : l.length ≤ 1048576) (hr : r.length ≤ 1048576) : Calls Try.prog 121 #[.int .i64 k, .agg #[.string ⟨l.toArray⟩, .string ⟨r.toArray⟩]] w fun e w' => e = .returned (.bool (M.SidesOk k ⟨l, r⟩)) ∧ Below w.heap.size w w' := by
  unfold M.SidesOk
  have h1 := Lib.hid (fun W => spec_WordOk_c k l W hl)
  have h2 := Lib.hid (fun W => spec_WordOk_c k r W hr)
  generalize M.WordOk k l = x at *
  generalize M.WordOk k r = y at *
  obtain ⟨v, hv⟩ : ∃ v, v = decide ((r.length : Int) ≤ 8) := ⟨_, rfl⟩
  obtain ⟨u, hu⟩ : ∃ u, u = decide ((l.length : Int) ≤ 8) := ⟨_, rfl⟩
  simp only [← hu, ← hv]
  replace hu := hu.symm
  replace hv := hv.symm
  cases x
  case false =>
    clear hu hv
    go_enter Try.func121, Try.ntmps121
    go_wp2_with fail
    refine (h1.out _).mono ?_
    rintro e w' ⟨rfl, rfl⟩
    go_wp2_with fail
    go_ret
    exact ⟨rfl, (Below.refl _ _).alloc (Nat.le_refl _) _⟩
  cases y
  case false =>
    clear hu hv
    go_enter Try.func121, Try.ntmps121
    go_wp2_with fail
    refine (h1.out _).mono ?_
    rintro e w' ⟨rfl, rfl⟩
    go_wp2_with fail
    refine (h2.out _).mono ?_
    rintro e w' ⟨rfl, rfl⟩
    go_wp2_with fail
    go_ret
    exact ⟨rfl, (Below.refl _ _).alloc (Nat.le_refl _) _⟩
  cases u
  case false =>
    clear hv
    go_enter Try.func121, Try.ntmps121
    go_wp2_with fail
    refine (h1.out _).mono ?_
    rintro e w' ⟨rfl, rfl⟩
    go_wp2_with fail
    refine (h2.out _).mono ?_
    rintro e w' ⟨rfl, rfl⟩
    go_wp2_with fail
    go_ret
    exact ⟨rfl, (Below.refl _ _).alloc (Nat.le_refl _) _⟩
  cases v
  all_goals
    go_enter Try.func121, Try.ntmps121
    go_wp2_with fail
    refine (h1.out _).mono ?_
    rintro e w' ⟨rfl, rfl⟩
    go_wp2_with fail
    refine (h2.out _).mono ?_
    rintro e w' ⟨rfl, rfl⟩
    go_wp2_with fail
    go_ret
    exact ⟨rfl, (Below.refl _ _).alloc (Nat.le_refl _) _⟩


set_option maxRecDepth 100000 in
set_option maxHeartbeats 2000000 in
theorem oriented_c (l r : List UInt8) (w : World) (hl : l.length ≤ 1048576) (hr : r.length ≤ 1048576) : Calls Try.prog 64 #[.agg #[.string ⟨l.toArray⟩, .string ⟨r.toArray⟩]] w fun e w' => e = .returned (.agg #[.string ⟨(M.oriented ⟨l, r⟩).left.toArray⟩, .string ⟨(M.oriented ⟨l, r⟩).right.toArray⟩]) ∧ Below w.heap.size w w' := by
  unfold M.oriented
  simp only
  have h1 := Lib.hid (fun W => impl_IsLess_c l r W (by omega) (by omega))
  generalize M.IsLess l r = x at *
  cases x
  case false =>
    go_enter Try.func64, Try.ntmps64
    go_wp2_with fail
    refine (h1.out _).mono ?_
    rintro e w1 ⟨rfl, hb⟩
    have c1 : w1.cell? ⟨w.heap.size, 0, none⟩ = some (.string ⟨l.toArray⟩) := cellKeep hb (by simp [go_sem])
    have c2 : w1.cell? ⟨w.heap.size, 1, none⟩ = some (.string ⟨r.toArray⟩) := cellKeep hb (by simp [go_sem])
    have d1 : w1.cell? ⟨w.heap.size + 1, 0, none⟩ = some (.string ⟨#[]⟩) := cellKeep hb (by simp [go_sem])
    have d2 : w1.cell? ⟨w.heap.size + 1, 1, none⟩ = some (.string ⟨#[]⟩) := cellKeep hb (by simp [go_sem])
    have f1 : w1.frozen? ⟨w.heap.size + 1, 0, none⟩ = false := ((bcell hb).2 _ _ (by simp)).trans (by simp [go_sem])
    have f2 : w1.frozen? ⟨w.heap.size + 1, 1, none⟩ = false := ((bcell hb).2 _ _ (by simp)).trans (by simp [go_sem])
    have hb' := Lib.hid (below_alloc2 hb)
    clear hb
    go_wp2_with fail
    refine bodyPost_ret (v := .agg #[.string ⟨l.toArray⟩, .string ⟨r.toArray⟩]) ?_ rfl ⟨rfl, ?_⟩
    · simp [results, Try.results64, go_sem, cell_set_ne, cell_set_eq _ d1, cell_two d2]
    · exact (hb'.out.setCell (by simp) _).setCell (by simp) _
  case true =>
    go_enter Try.func64, Try.ntmps64
    go_wp2_with fail
    refine (h1.out _).mono ?_
    rintro e w1 ⟨rfl, hb⟩
    have c1 : w1.cell? ⟨w.heap.size, 0, none⟩ = some (.string ⟨l.toArray⟩) := cellKeep hb (by simp [go_sem])
    have c2 : w1.cell? ⟨w.heap.size, 1, none⟩ = some (.string ⟨r.toArray⟩) := cellKeep hb (by simp [go_sem])
    have d1 : w1.cell? ⟨w.heap.size + 1, 0, none⟩ = some (.string ⟨#[]⟩) := cellKeep hb (by simp [go_sem])
    have d2 : w1.cell? ⟨w.heap.size + 1, 1, none⟩ = some (.string ⟨#[]⟩) := cellKeep hb (by simp [go_sem])
    have f1 : w1.frozen? ⟨w.heap.size + 1, 0, none⟩ = false := ((bcell hb).2 _ _ (by simp)).trans (by simp [go_sem])
    have f2 : w1.frozen? ⟨w.heap.size + 1, 1, none⟩ = false := ((bcell hb).2 _ _ (by simp)).trans (by simp [go_sem])
    have hb' := Lib.hid (below_alloc2 hb)
    clear hb
    go_wp2_with fail
    refine bodyPost_ret (v := .agg #[.string ⟨r.toArray⟩, .string ⟨l.toArray⟩]) ?_ rfl ⟨rfl, ?_⟩
    · simp [results, Try.results64, go_sem, cell_set_ne, cell_set_eq _ d1, cell_two d2]
    · exact (hb'.out.setCell (by simp) _).setCell (by simp) _
set_option maxRecDepth 100000 in
set_option maxHeartbeats 2000000 in
theorem spec_OrientRule_c (k : Int) (l r : List UInt8) (w : World) (hl : l.length ≤ 1048576) (hr : r.length ≤ 1048576) : Calls Try.prog 61 #[.int .i64 k, .agg #[.string ⟨l.toArray⟩, .string ⟨r.toArray⟩]] w fun e w' => e = .returned (.tuple #[.agg #[.string ⟨(M.OrientRule k ⟨l, r⟩).1.left.toArray⟩, .string ⟨(M.OrientRule k ⟨l, r⟩).1.right.toArray⟩], .bool (M.OrientRule k ⟨l, r⟩).2]) ∧ Below w.heap.size w w' := by
  unfold M.OrientRule
  simp only
  have h1 := Lib.hid (fun W => spec_SidesOk_c k l r W hl hr)
  generalize M.SidesOk k ⟨l, r⟩ = x at *
  cases x
  case false =>
    go_enter Try.func61, Try.ntmps61
    go_wp2_with fail
    refine (h1.out _).mono ?_
    rintro e w1 ⟨rfl, hb⟩
    have s1 : w.heap.size + 2 ≤ w1.heap.size := by have := hb.size; simp at this; omega
    have c11 : w1.cell? ⟨w.heap.size, 0, none⟩ = some (.string ⟨l.toArray⟩) := cellKeep hb (by simp [go_sem])
    have c21 : w1.cell? ⟨w.heap.size, 1, none⟩ = some (.string ⟨r.toArray⟩) := cellKeep hb (by simp [go_sem])
    have d11 : w1.cell? ⟨w.heap.size + 1, 0, none⟩ = some (.string ⟨#[]⟩) := cellKeep hb (by simp [go_sem])
    have d21 : w1.cell? ⟨w.heap.size + 1, 1, none⟩ = some (.string ⟨#[]⟩) := cellKeep hb (by simp [go_sem])
    have f11 : w1.frozen? ⟨w.heap.size + 1, 0, none⟩ = false := ((bcell hb).2 _ _ (by simp)).trans (by simp [go_sem])
    have f21 : w1.frozen? ⟨w.heap.size + 1, 1, none⟩ = false := ((bcell hb).2 _ _ (by simp)).trans (by simp [go_sem])
    have hb1 := Lib.hid (below_alloc2 hb)
    clear hb
    go_wp2_with fail
    refine bodyPost_ret (v := .tuple #[.agg #[.string ⟨#[]⟩, .string ⟨#[]⟩], .bool false]) ?_ rfl ⟨rfl, ?_⟩
    · simp [results, Try.results61, go_sem, cell_set_ne, cell_set_eq _ d11, cell_two d21]
    · exact (hb1.out.setCell (by simp) _).setCell (by simp) _
  by_cases he : l = r
  case pos =>
    rw [if_neg (by simp), if_pos he]
    subst he
    go_enter Try.func61, Try.ntmps61
    go_wp2_with fail
    refine (h1.out _).mono ?_
    rintro e w1 ⟨rfl, hb⟩
    have s1 : w.heap.size + 2 ≤ w1.heap.size := by have := hb.size; simp at this; omega
    have c11 : w1.cell? ⟨w.heap.size, 0, none⟩ = some (.string ⟨l.toArray⟩) := cellKeep hb (by simp [go_sem])
    have c21 : w1.cell? ⟨w.heap.size, 1, none⟩ = some (.string ⟨l.toArray⟩) := cellKeep hb (by simp [go_sem])
    have d11 : w1.cell? ⟨w.heap.size + 1, 0, none⟩ = some (.string ⟨#[]⟩) := cellKeep hb (by simp [go_sem])
    have d21 : w1.cell? ⟨w.heap.size + 1, 1, none⟩ = some (.string ⟨#[]⟩) := cellKeep hb (by simp [go_sem])
    have f11 : w1.frozen? ⟨w.heap.size + 1, 0, none⟩ = false := ((bcell hb).2 _ _ (by simp)).trans (by simp [go_sem])
    have f21 : w1.frozen? ⟨w.heap.size + 1, 1, none⟩ = false := ((bcell hb).2 _ _ (by simp)).trans (by simp [go_sem])
    have hb1 := Lib.hid (below_alloc2 hb)
    clear hb
    go_wp2_with fail
    refine bodyPost_ret (v := .tuple #[.agg #[.string ⟨#[]⟩, .string ⟨#[]⟩], .bool false]) ?_ rfl ⟨rfl, ?_⟩
    · simp [results, Try.results61, go_sem, cell_set_ne, cell_set_eq _ d11, cell_two d21]
    · exact (hb1.out.setCell (by simp) _).setCell (by simp) _
  case neg =>
    rw [if_neg (by simp), if_neg he]
    have he' : (l == r) = false := by simpa using he
    have h2 := Lib.hid (fun W => toBelow1 (spec_IsLess_c l r W (by omega) (by omega)))
    clear he
    unfold M.oriented
    simp only
    generalize M.IsLess l r = z at *
    cases z
    case false =>
      go_enter Try.func61, Try.ntmps61
      go_wp2_with fail
      refine (h1.out _).mono ?_
      rintro e w1 ⟨rfl, hb⟩
      have s1 : w.heap.size + 2 ≤ w1.heap.size := by have := hb.size; simp at this; omega
      have c11 : w1.cell? ⟨w.heap.size, 0, none⟩ = some (.string ⟨l.toArray⟩) := cellKeep hb (by simp [go_sem])
      have c21 : w1.cell? ⟨w.heap.size, 1, none⟩ = some (.string ⟨r.toArray⟩) := cellKeep hb (by simp [go_sem])
      have d11 : w1.cell? ⟨w.heap.size + 1, 0, none⟩ = some (.string ⟨#[]⟩) := cellKeep hb (by simp [go_sem])
      have d21 : w1.cell? ⟨w.heap.size + 1, 1, none⟩ = some (.string ⟨#[]⟩) := cellKeep hb (by simp [go_sem])
      have f11 : w1.frozen? ⟨w.heap.size + 1, 0, none⟩ = false := ((bcell hb).2 _ _ (by simp)).trans (by simp [go_sem])
      have f21 : w1.frozen? ⟨w.heap.size + 1, 1, none⟩ = false := ((bcell hb).2 _ _ (by simp)).trans (by simp [go_sem])
      have hb1 := Lib.hid (below_alloc2 hb)
      clear hb
      go_wp2_with fail
      refine (h2.out _).mono ?_
      rintro e w2 ⟨rfl, hb⟩
      have s2 : w.heap.size + 2 ≤ w2.heap.size := Nat.le_trans s1 hb.size
      have c12 : w2.cell? ⟨w.heap.size, 0, none⟩ = some (.string ⟨l.toArray⟩) := cellKeep hb c11
      have c22 : w2.cell? ⟨w.heap.size, 1, none⟩ = some (.string ⟨r.toArray⟩) := cellKeep hb c21
      have d12 : w2.cell? ⟨w.heap.size + 1, 0, none⟩ = some (.string ⟨#[]⟩) := cellKeep hb d11
      have d22 : w2.cell? ⟨w.heap.size + 1, 1, none⟩ = some (.string ⟨#[]⟩) := cellKeep hb d21
      have f12 : w2.frozen? ⟨w.heap.size + 1, 0, none⟩ = false := ((bcell hb).2 _ _ (by omega)).trans f11
      have f22 : w2.frozen? ⟨w.heap.size + 1, 1, none⟩ = false := ((bcell hb).2 _ _ (by omega)).trans f21
      have hb2 := Lib.hid (hb1.out.trans (hb.mono hb1.out.size))
      clear hb
      go_wp2_with fail
      refine bodyPost_ret (v := .tuple #[.agg #[.string ⟨l.toArray⟩, .string ⟨r.toArray⟩], .bool true]) ?_ rfl ⟨rfl, ?_⟩
      · simp [results, Try.results61, go_sem, cell_set_ne, cell_set_eq _ d12, cell_two d22]
      · exact (hb2.out.setCell (by simp) _).setCell (by simp) _
    case true =>
      go_enter Try.func61, Try.ntmps61
      go_wp2_with fail
      refine (h1.out _).mono ?_
      rintro e w1 ⟨rfl, hb⟩
      have s1 : w.heap.size + 2 ≤ w1.heap.size := by have := hb.size; simp at this; omega
      have c11 : w1.cell? ⟨w.heap.size, 0, none⟩ = some (.string ⟨l.toArray⟩) := cellKeep hb (by simp [go_sem])
      have c21 : w1.cell? ⟨w.heap.size, 1, none⟩ = some (.string ⟨r.toArray⟩) := cellKeep hb (by simp [go_sem])
      have d11 : w1.cell? ⟨w.heap.size + 1, 0, none⟩ = some (.string ⟨#[]⟩) := cellKeep hb (by simp [go_sem])
      have d21 : w1.cell? ⟨w.heap.size + 1, 1, none⟩ = some (.string ⟨#[]⟩) := cellKeep hb (by simp [go_sem])
      have f11 : w1.frozen? ⟨w.heap.size + 1, 0, none⟩ = false := ((bcell hb).2 _ _ (by simp)).trans (by simp [go_sem])
      have f21 : w1.frozen? ⟨w.heap.size + 1, 1, none⟩ = false := ((bcell hb).2 _ _ (by simp)).trans (by simp [go_sem])
      have hb1 := Lib.hid (below_alloc2 hb)
      clear hb
      go_wp2_with fail
      refine (h2.out _).mono ?_
      rintro e w2 ⟨rfl, hb⟩
      have s2 : w.heap.size + 2 ≤ w2.heap.size := Nat.le_trans s1 hb.size
      have c12 : w2.cell? ⟨w.heap.size, 0, none⟩ = some (.string ⟨l.toArray⟩) := cellKeep hb c11
      have c22 : w2.cell? ⟨w.heap.size, 1, none⟩ = some (.string ⟨r.toArray⟩) := cellKeep hb c21
      have d12 : w2.cell? ⟨w.heap.size + 1, 0, none⟩ = some (.string ⟨#[]⟩) := cellKeep hb d11
      have d22 : w2.cell? ⟨w.heap.size + 1, 1, none⟩ = some (.string ⟨#[]⟩) := cellKeep hb d21
      have f12 : w2.frozen? ⟨w.heap.size + 1, 0, none⟩ = false := ((bcell hb).2 _ _ (by omega)).trans f11
      have f22 : w2.frozen? ⟨w.heap.size + 1, 1, none⟩ = false := ((bcell hb).2 _ _ (by omega)).trans f21
      have hb2 := Lib.hid (hb1.out.trans (hb.mono hb1.out.size))
      clear hb
      go_wp2_with fail
      refine bodyPost_ret (v := .tuple #[.agg #[.string ⟨r.toArray⟩, .string ⟨l.toArray⟩], .bool true]) ?_ rfl ⟨rfl, ?_⟩
      · simp [results, Try.results61, go_sem, cell_set_ne, cell_set_eq _ d12, cell_two d22]
      · exact (hb2.out.setCell (by simp) _).setCell (by simp) _
set_option maxRecDepth 100000 in
set_option maxHeartbeats 2000000 in
theorem eqRule_c (l r l' r' : List UInt8) (w : World) : Calls Try.prog 110 #[.agg #[.string ⟨l.toArray⟩, .string ⟨r.toArray⟩], .agg #[.string ⟨l'.toArray⟩, .string ⟨r'.toArray⟩]] w fun e w' => e = .returned (.bool (decide (l = l' ∧ r = r'))) ∧ Below w.heap.size w w' := by
  by_cases h1 : l = l'
  case neg =>
    have h1' : (l == l') = false := by simpa using h1
    rw [decide_eq_false (fun h => h1 h.1)]
    clear h1
    go_enter Try.func110, Try.ntmps110
    go_wp2
    go_ret
    exact ⟨rfl, ((Below.refl _ _).alloc (Nat.le_refl _) _).alloc (by simp) _⟩
  subst h1
  by_cases h2 : r = r'
  case neg =>
    have h1' : (r == r') = false := by simpa using h2
    rw [decide_eq_false (fun h => h2 h.2)]
    clear h2
    go_enter Try.func110, Try.ntmps110
    go_wp2
    go_ret
    exact ⟨rfl, ((Below.refl _ _).alloc (Nat.le_refl _) _).alloc (by simp) _⟩
  subst h2
  rw [decide_eq_true ⟨rfl, rfl⟩]
  go_enter Try.func110, Try.ntmps110
  go_wp2
  go_ret
  exact ⟨rfl, ((Below.refl _ _).alloc (Nat.le_refl _) _).alloc (by simp) _⟩
theorem eqRule_t (l r : List UInt8) (w : World) : Calls Try.prog 110 #[.agg #[.string ⟨l.toArray⟩, .string ⟨r.toArray⟩], .agg #[.string ⟨l.toArray⟩, .string ⟨r.toArray⟩]] w fun e w' => e = .returned (.bool true) ∧ Below w.heap.size w w' :=
  (eqRule_c l r l r w).mono fun _ _ ⟨he, hb⟩ => ⟨he.trans (ret_bool (decide_eq_true ⟨rfl, rfl⟩)), hb⟩

end Go.Proofs.Ytlohpphmamapeaa
/-
  Contracts of the laws' helpers on slices of rules and on systems: measured, copied, compared.
  Conditions: at most 2^20 elements.
-/
namespace Go.Proofs.Ytlohpphmamapeaa
open Go.RowKit
set_option linter.unusedVariables false

theorem below_two (w : World) (o p : Obj) : Below w.heap.size w ((w.alloc o).alloc p) := ((Below.refl _ _).alloc (Nat.le_refl _) _).alloc (by simp) _

set_option maxRecDepth 100000 in
set_option maxHeartbeats 1000000 in
theorem szRuleS_c (A : Option Addr) (c : Nat) (rs : List M.Rule) (n : Int) (w : World) (hA : Rd w 2 A rs.length (ruls rs)) (hl : rs.length ≤ 9223372036854775807) (hs : ∀ r ∈ rs, r.left.length ≤ 9223372036854775807 ∧ r.right.length ≤ 9223372036854775807) (hn : n ≤ 1048576) (hn0 : 0 ≤ n) :
    Calls Try.prog 48 #[.slice A rs.length c, .int .i64 n] w fun e w' => e = .returned (.int .i64 (M.szRules rs n)) ∧ Below w.heap.size w w' := by
  unfold M.szRules
  by_cases h1 : n - rs.length < 0
  · rw [if_pos h1]
    go_enter Try.func48, Try.ntmps48
    go_wp2
    go_ret
    exact ⟨rfl, Below.refl _ _⟩
  · rw [if_neg h1]
    have HA := Lib.hid hA
    have HS := Lib.hid hs
    obtain ⟨q, hq⟩ : ∃ q, q = M.szFrom rs (n - rs.length) := ⟨_, rfl⟩
    rw [← hq]
    have HQ := Lib.hid hq
    obtain ⟨m, hm⟩ : ∃ m, m = rs.length := ⟨_, rfl⟩
    rw [← hm]
    rw [← hm] at h1
    have HM := Lib.hid hm
    have hmb : m ≤ 1048576 := by omega
    clear hA hs hq hm hl
    go_enter Try.func48, Try.ntmps48
    go_wp2
    go_loopw [1, 5] (fun l i wr => ∃ (k : Nat) (z : Int), k ≤ m ∧ i = .int .i64 k ∧ l = .int .i64 z ∧ 0 ≤ z ∧ z ≤ 1048576 ∧ M.szFrom (rs.drop k) z = q ∧ Below w.heap.size w wr) (fun _ i _ => m - (intOf i).toNat)
    case atStart => exact ⟨0, n - m, by omega, rfl, rfl, by omega, by omega, by rw [HQ.out, List.drop_zero, HM.out], Below.refl _ _⟩
    case round =>
      obtain ⟨k, z, hk, rfl, rfl, hz0, hz1, hf, hb⟩ := hrel
      have HB := Lib.hid hb
      have HF := Lib.hid hf
      clear hb hf
      by_cases hlt : k < m
      · obtain ⟨b, o, rfl, hz, hc1, hc2⟩ := (HA.out.below HB.out).ruleAt (k := k) (by have := HM.out; omega)
        have hs := HS.out rs[k] (List.getElem_mem hz)
        have hd : rs.drop k = rs[k] :: rs.drop (k + 1) := List.drop_eq_getElem_cons hz
        have HF2 := Lib.hid (show M.szFrom (rs[k] :: rs.drop (k + 1)) z = q by rw [← hd]; exact HF.out)
        clear hd
        generalize rs[k] = r at *
        obtain ⟨rl, rr⟩ := r
        have h3 := Lib.hid (fun W => szRule_c rl rr z W hs.1 hs.2 hz1 hz0)
        by_cases hneg : M.szRule ⟨rl, rr⟩ z < 0
        · have e : q = -1 := by have := HF2.out; rw [M.szFrom, if_pos hneg] at this; exact this.symm
          generalize M.szRule ⟨rl, rr⟩ z = y at *
          go_wp2_with fail
          refine (h3.out _).mono ?_
          rintro e w1 ⟨rfl, hb1⟩
          go_wp2_with fail
          go_ret
          exact ⟨ret_int e.symm, HB.out.trans (hb1.mono HB.out.size)⟩
        · have hok := M.szRule_ok hneg
          have HF3 := Lib.hid (show M.szFrom (rs.drop (k + 1)) (M.szRule ⟨rl, rr⟩ z) = q by have := HF2.out; rw [M.szFrom, if_neg hneg] at this; exact this)
          generalize M.szRule ⟨rl, rr⟩ z = y at *
          have HY := Lib.hid hok
          clear hok
          go_wp2_with fail
          refine (h3.out _).mono ?_
          rintro e w1 ⟨rfl, hb1⟩
          go_wp2_with fail
          go_roundw
          case rel => exact ⟨k + 1, y, by omega, by go_num, rfl, by have := HY.out; omega, by have := HY.out; omega, HF3.out, HB.out.trans (hb1.mono HB.out.size)⟩
          case measure => simp [intOf]; omega
      · have e : z = q := by have := HF.out; rw [List.drop_eq_nil_of_le (by have := HM.out; omega)] at this; exact this
        go_wp2
        go_ret
        exact ⟨ret_int e, HB.out⟩

theorem rule_ext {x y : M.Rule} (h : x.left = y.left) (h' : x.right = y.right) : x = y := by cases x; cases y; simp_all
set_option maxRecDepth 100000 in
set_option maxHeartbeats 1000000 in
theorem eqRuleS_c (A B : Option Addr) (c d : Nat) (xs ys : List M.Rule) (w : World) (hA : Rd w 2 A xs.length (ruls xs)) (hB : Rd w 2 B ys.length (ruls ys)) (hx : xs.length ≤ 1099511627776) (hy : ys.length ≤ 1099511627776) :
    Calls Try.prog 52 #[.slice A xs.length c, .slice B ys.length d] w fun e w' => e = .returned (.bool (decide (xs = ys))) ∧ Below w.heap.size w w' := by
  by_cases hl : xs.length = ys.length
  case neg =>
    rw [decide_eq_false (show ¬ xs = ys from fun e => hl (by rw [e]))]
    have hl' : ((xs.length : Int) != (ys.length : Int)) = true := by rw [bne_iff_ne]; omega
    go_enter Try.func52, Try.ntmps52
    go_wp2
    go_ret
    exact ⟨rfl, Below.refl _ _⟩
  case pos =>
    have HL := Lib.hid hl
    have HA := Lib.hid hA
    have HB := Lib.hid hB
    obtain ⟨n, hn⟩ : ∃ n, n = ys.length := ⟨_, rfl⟩
    have hn1 : xs.length = n := by omega
    rw [hn1, ← hn]
    have HN := Lib.hid hn
    have HN1 := Lib.hid hn1
    have hn2 : n ≤ 1099511627776 := by omega
    clear hA hB hn hn1 hl hx hy
    go_enter Try.func52, Try.ntmps52
    go_wp2
    go_loopw [5] (fun i wr => ∃ k : Nat, k ≤ n ∧ i = .int .i64 k ∧ xs.take k = ys.take k ∧ Below w.heap.size w wr) (fun i _ => n - (intOf i).toNat)
    case atStart => exact ⟨0, by omega, rfl, by simp, Below.refl _ _⟩
    case round =>
      obtain ⟨k, hk, rfl, ht, hb⟩ := hrel
      have HT := Lib.hid ht
      have HW := Lib.hid hb
      clear ht hb
      by_cases hlt : k < n
      · obtain ⟨b1, o1, rfl, hz1, hc1, hd1⟩ := (HA.out.below HW.out).ruleAt (k := k) (by have := HN1.out; omega)
        obtain ⟨b2, o2, rfl, hz2, hc2, hd2⟩ := (HB.out.below HW.out).ruleAt (k := k) (by have := HN.out; omega)
        have hq := Lib.hid (fun W => eqRule_c xs[k].left xs[k].right ys[k].left ys[k].right W)
        by_cases he : xs[k] = ys[k]
        · have HE := Lib.hid (take_eq_succ hz1 hz2 HT.out he)
          have hd := Lib.hid (decide_eq_true (show xs[k].left = ys[k].left ∧ xs[k].right = ys[k].right by rw [he]; exact ⟨rfl, rfl⟩))
          rw [hd.out] at hq
          clear he
          generalize xs[k] = x at *
          generalize ys[k] = y at *
          obtain ⟨xl, xr⟩ := x
          obtain ⟨yl, yr⟩ := y
          simp only at hc1 hd1 hc2 hd2 hq
          go_wp2
          go_region_held3 (fun w' => w'.cell? ⟨b1, o1 + k * 2, none⟩ = some (.string ⟨xl.toArray⟩) ∧ w'.cell? ⟨b1, o1 + k * 2 + 1, none⟩ = some (.string ⟨xr.toArray⟩) ∧ w'.cell? ⟨b2, o2 + k * 2, none⟩ = some (.string ⟨yl.toArray⟩) ∧ w'.cell? ⟨b2, o2 + k * 2 + 1, none⟩ = some (.string ⟨yr.toArray⟩) ∧ Below wr.heap.size wr w') (first | exact ⟨hc1, hd1, hc2, hd2, (Below.refl _ _).drew⟩ | assumption | exact held4 (by assumption) hb1) (first | (go_simp; go_at_call 110; refine (hq.out _).mono ?_; rintro e w1 ⟨rfl, hb1⟩))
          all_goals
            have hh : Below wr.heap.size wr w1 := held4_below (by assumption)
            go_wp2
            go_roundw
            case rel => exact ⟨k + 1, by omega, by go_num, HE.out, HW.out.trans (hh.mono HW.out.size)⟩
            case measure => simp [intOf]; omega
        · have HE := Lib.hid (ne_at hz1 hz2 he)
          have hd := Lib.hid (decide_eq_false (show ¬ (xs[k].left = ys[k].left ∧ xs[k].right = ys[k].right) from fun h => he (rule_ext h.1 h.2)))
          rw [hd.out] at hq
          clear he
          generalize xs[k] = x at *
          generalize ys[k] = y at *
          obtain ⟨xl, xr⟩ := x
          obtain ⟨yl, yr⟩ := y
          simp only at hc1 hd1 hc2 hd2 hq
          go_wp2
          go_region_held3 (fun w' => w'.cell? ⟨b1, o1 + k * 2, none⟩ = some (.string ⟨xl.toArray⟩) ∧ w'.cell? ⟨b1, o1 + k * 2 + 1, none⟩ = some (.string ⟨xr.toArray⟩) ∧ w'.cell? ⟨b2, o2 + k * 2, none⟩ = some (.string ⟨yl.toArray⟩) ∧ w'.cell? ⟨b2, o2 + k * 2 + 1, none⟩ = some (.string ⟨yr.toArray⟩) ∧ Below wr.heap.size wr w') (first | exact ⟨hc1, hd1, hc2, hd2, (Below.refl _ _).drew⟩ | assumption | exact held4 (by assumption) hb1) (first | (go_simp; go_at_call 110; refine (hq.out _).mono ?_; rintro e w1 ⟨rfl, hb1⟩))
          all_goals
            have hh : Below wr.heap.size wr w1 := held4_below (by assumption)
            go_wp2
            go_ret
            exact ⟨ret_bool (decide_eq_false HE.out).symm, HW.out.trans (hh.mono HW.out.size)⟩
      · go_wp2
        go_ret
        exact ⟨ret_bool (decide_eq_true (eq_of_takes HL.out (by have := HN1.out; omega) HT.out)).symm, HW.out⟩
theorem eqRuleS_t (A B : Option Addr) (c d : Nat) (xs : List M.Rule) (w : World) (hA : Rd w 2 A xs.length (ruls xs)) (hB : Rd w 2 B xs.length (ruls xs)) (hx : xs.length ≤ 1099511627776) :
    Calls Try.prog 52 #[.slice A xs.length c, .slice B xs.length d] w fun e w' => e = .returned (.bool true) ∧ Below w.heap.size w w' :=
  (eqRuleS_c A B c d xs xs w hA hB hx hx).mono fun _ _ ⟨he, hb⟩ => ⟨he.trans (ret_bool (decide_eq_true rfl)), hb⟩

set_option maxRecDepth 100000 in
set_option maxHeartbeats 1000000 in
theorem toRuleS_c (A : Option Addr) (c : Nat) (rs : List M.Rule) (w : World) (hA : Rd w 2 A rs.length (ruls rs)) (hl : rs.length ≤ 1048576) :
    Calls Try.prog 50 #[.slice A rs.length c] w (RetRd (fun A c => .slice A rs.length c) 2 rs.length (ruls rs) w) := by
  have HA := Lib.hid hA
  obtain ⟨n, hn⟩ : ∃ n, n = rs.length := ⟨_, rfl⟩
  have hnb : n ≤ 1048576 := by omega
  have HN := Lib.hid hn
  rw [← hn]
  clear hA hl hn
  go_enter Try.func50, Try.ntmps50
  go_wp2_with (at_make; refine make_law rfl _ rfl slRule rfl (by omega) ?_; intro zs w' hzl hown hb')
  obtain ⟨g, hg⟩ : ∃ g, g = w.heap.size := ⟨_, rfl⟩
  rw [← hg] at hown ⊢
  have HO := Lib.hid hown
  have HB := Lib.hid hb'
  have HL := Lib.hid hzl
  have HG := Lib.hid hg
  clear hown hb' hzl hg
  go_loopw [4] (fun i wr => ∃ k : Nat, k ≤ n ∧ i = .int .i64 k ∧ Own wr g 2 (some ⟨g, 0, none⟩) n (part rule2 rs zs 2 k) ∧ Below w.heap.size w wr) (fun i _ => n - (intOf i).toNat)
  case atStart => exact ⟨0, by omega, rfl, by rw [part_zero]; exact HO.out, HB.out⟩
  case round =>
    obtain ⟨k, hk, rfl, hown, hb⟩ := hrel
    by_cases hlt : k < n
    · obtain ⟨b, o, rfl, hz, hc, hd⟩ := (HA.out.below hb).ruleAt (k := k) (by have := HN.out; omega)
      have HP := Lib.hid (fun u v (h : rule2 rs[k] = [u, v]) => part2 (f := rule2) (rs := rs) (zs := zs) (fun _ => rfl) hz (by have h1 := HL.out; have h2 := HN.out; omega) h)
      have HO := Lib.hid hown
      have HB := Lib.hid hb
      clear hown hb
      generalize rs[k] = r at *
      obtain ⟨rl, rr⟩ := r
      simp only at hc hd
      go_wp2_with fail
      refine (toRule_c rl rr _).mono ?_
      rintro e w1 ⟨rfl, hb1⟩
      have HO1 := HO.out.below hb1
      obtain ⟨hgb, hcs, hfs, hset⟩ := HO1.at0 (by omega)
      have hlm : k * 2 + 1 < (part rule2 rs zs 2 k).length := by have := HO1.len; omega
      have hc1 := hcs (k * 2) _ (List.getElem?_eq_getElem (by omega))
      have hc2 := hcs (k * 2 + 1) _ (List.getElem?_eq_getElem hlm)
      have hf1 := hfs (k * 2)
      have hf2 := hfs (k * 2 + 1)
      have HS := Lib.hid (((hset (k * 2) (.string ⟨rl.toArray⟩)).at0 (by omega)).2.2.2 (k * 2 + 1) (.string ⟨rr.toArray⟩))
      have HT := Lib.hid (HB.out.trans (hb1.mono HB.out.size))
      have HGG := Lib.hid hgb
      generalize (part rule2 rs zs 2 k)[k * 2] = v1 at hc1
      generalize (part rule2 rs zs 2 k)[k * 2 + 1] = v2 at hc2
      clear hcs hfs hset HO1 hb1 hgb
      go_wp2_with fail
      go_roundw
      case rel => exact ⟨k + 1, by omega, by go_num, by have h1 := HS.out; rwa [HP.out _ _ rfl] at h1, (HT.out.setCell (by have := HG.out; simp; omega) _).setCell (by have := HG.out; simp; omega) _⟩
      case measure => simp [intOf]; omega
    · obtain rfl : k = n := by omega
      have HO := Lib.hid hown
      have HB := Lib.hid hb
      clear hown hb
      go_wp2
      go_ret
      exact ⟨_, _, rfl, by have h1 := HO.out; have h2 := HN.out; subst h2; rw [part_all HL.out] at h1; have h3 := HG.out; subst h3; exact h1, HB.out⟩

set_option maxRecDepth 100000 in
set_option maxHeartbeats 1000000 in
theorem szSystem_c (k : Int) (A : Option Addr) (c : Nat) (rs : List M.Rule) (n : Int) (w : World) (hA : Rd w 2 A rs.length (ruls rs)) (hl : rs.length ≤ 9223372036854775807) (hs : ∀ r ∈ rs, r.left.length ≤ 9223372036854775807 ∧ r.right.length ≤ 9223372036854775807) (hn : n ≤ 1048576) (hn0 : 0 ≤ n) :
    Calls Try.prog 14 #[.agg #[.int .i64 k, .slice A rs.length c], .int .i64 n] w fun e w' => e = .returned (.int .i64 (if M.szRules rs n < 0 then -1 else M.szRules rs n)) ∧ Below w.heap.size w w' := by
  have h1 := Lib.hid (fun W h => szRuleS_c A c rs n W h hl hs hn hn0)
  have HA := Lib.hid hA
  by_cases hneg : M.szRules rs n < 0
  all_goals
    first | rw [if_pos hneg] | rw [if_neg hneg]
    clear hA hs
    generalize M.szRules rs n = z at *
    go_enter Try.func14, Try.ntmps14
    go_wp2_with fail
    refine (h1.out _ (HA.out.below ((Below.refl _ _).alloc (Nat.le_refl _) _))).mono ?_
    rintro e w1 ⟨rfl, hb1⟩
    go_wp2_with fail
    go_ret
    exact ⟨rfl, below_alloc1 hb1⟩
set_option maxRecDepth 100000 in
set_option maxHeartbeats 1000000 in
theorem toSystem_c (k : Int) (A : Option Addr) (c : Nat) (rs : List M.Rule) (w : World) (hA : Rd w 2 A rs.length (ruls rs)) (hl : rs.length ≤ 1048576) :
    Calls Try.prog 16 #[.agg #[.int .i64 k, .slice A rs.length c]] w (RetRd (fun A c => .agg #[.int .i64 k, .slice A rs.length c]) 2 rs.length (ruls rs) w) := by
  have h1 := Lib.hid (fun W h => toRuleS_c A c rs W h hl)
  have HA := Lib.hid hA
  clear hA
  go_enter Try.func16, Try.ntmps16
  go_wp2_with fail
  refine (h1.out _ (HA.out.below (by repeat (first | exact Below.refl _ _ | refine Below.setCell ?_ (by simp <;> omega) _ | refine Below.alloc ?_ (by simp <;> omega) _)))).mono ?_
  rintro e w1 ⟨A1, c1, rfl, hr, hb1⟩
  have k1 : w1.cell? ⟨w.heap.size + 1 + 1, 0, none⟩ = some (.int .i64 k) := cellKeep hb1 (by simp [go_sem])
  have k2 : w1.cell? ⟨w.heap.size + 1 + 1, 1, none⟩ = some (.slice none 0 0) := cellKeep hb1 (by simp [go_sem])
  have d1 : w1.cell? ⟨w.heap.size + 1, 0, none⟩ = some (.int .i64 0) := cellKeep hb1 (by simp [go_sem])
  have d2 : w1.cell? ⟨w.heap.size + 1, 1, none⟩ = some (.slice none 0 0) := cellKeep hb1 (by simp [go_sem])
  have f1 : w1.frozen? ⟨w.heap.size + 1 + 1, 1, none⟩ = false := ((bcell hb1).2 _ _ (by simp)).trans (by simp [go_sem])
  have f2 : w1.frozen? ⟨w.heap.size + 1, 0, none⟩ = false := ((bcell hb1).2 _ _ (by simp)).trans (by simp [go_sem])
  have f3 : w1.frozen? ⟨w.heap.size + 1, 1, none⟩ = false := ((bcell hb1).2 _ _ (by simp)).trans (by simp [go_sem])
  have HO := Lib.hid (hr.mono (base' := w.heap.size + 3) (by simp))
  have HB := Lib.hid (below_alloc1 (below_alloc1 (below_alloc1 hb1)))
  clear hr hb1
  obtain ⟨S, hS⟩ : ∃ S, S = Value.slice A1 rs.length c1 := ⟨_, rfl⟩
  have e1 : (w1.setCell ⟨w.heap.size + 1 + 1, 1, none⟩ S).cell? ⟨w.heap.size + 1, 0, none⟩ = some (.int .i64 0) := (cell_set_ne _ (by omega)).trans d1
  have e2 : (w1.setCell ⟨w.heap.size + 1 + 1, 1, none⟩ S).cell? ⟨w.heap.size + 1, 1, none⟩ = some (.slice none 0 0) := (cell_set_ne _ (by omega)).trans d2
  have e3 : (w1.setCell ⟨w.heap.size + 1 + 1, 1, none⟩ S).cell? ⟨w.heap.size + 1 + 1, 1, none⟩ = some S := cell_set_eq _ k2
  have e4 : (w1.setCell ⟨w.heap.size + 1 + 1, 1, none⟩ S).cell? ⟨w.heap.size + 1 + 1, 0, none⟩ = some (.int .i64 k) := (cell_set_ne _ (by omega)).trans k1
  subst hS
  go_wp2_with fail
  refine bodyPost_ret (v := .agg #[.int .i64 k, .slice A1 rs.length c1]) ?_ rfl ⟨_, _, rfl, ?_, ?_⟩
  · simp [results, Try.results16, go_sem, cell_set_ne, cell_set_eq _ e1, cell_two' e2]
  · exact (((HO.out.setLow (by omega)).setLow (by omega)).setLow (by omega)).mono (by omega)
  · exact ((HB.out.setCell (by simp; omega) _).setCell (by simp) _).setCell (by simp) _
set_option maxRecDepth 100000 in
set_option maxHeartbeats 1000000 in
theorem eqSystem_t (k : Int) (A B : Option Addr) (c d : Nat) (rs : List M.Rule) (w : World) (hA : Rd w 2 A rs.length (ruls rs)) (hB : Rd w 2 B rs.length (ruls rs)) (hx : rs.length ≤ 1099511627776) :
    Calls Try.prog 18 #[.agg #[.int .i64 k, .slice A rs.length c], .agg #[.int .i64 k, .slice B rs.length d]] w fun e w' => e = .returned (.bool true) ∧ Below w.heap.size w w' := by
  have h1 := Lib.hid (fun W h h' => eqRuleS_t A B c d rs W h h' hx)
  have HA := Lib.hid hA
  have HB := Lib.hid hB
  clear hA hB
  go_enter Try.func18, Try.ntmps18
  go_wp2_with fail
  have hp := below_two w
  refine (h1.out _ (HA.out.below (hp _ _)) (HB.out.below (hp _ _))).mono ?_
  rintro e w1 ⟨rfl, hb1⟩
  go_wp2_with fail
  go_ret
  exact ⟨rfl, below_alloc2 hb1⟩

end Go.Proofs.Ytlohpphmamapeaa
/-
  Contracts of RulesOk and SystemOk, and of slices.ContainsFunc with their closures.
  Conditions: at most 2^20 rules, their lengths at most 2^20.
-/
namespace Go.Proofs.Ytlohpphmamapeaa
open Go.RowKit
set_option linter.unusedVariables false

set_option maxRecDepth 100000 in
set_option maxHeartbeats 1000000 in
theorem SystemOk1_c (r : M.Rule) (w : World) (hr : r.left.length ≤ 1048576 ∧ r.right.length ≤ 1048576) : Calls Try.prog 123 #[.agg #[.string ⟨r.left.toArray⟩, .string ⟨r.right.toArray⟩]] w fun e w' => e = .returned (.bool (M.notLess r)) ∧ Below w.heap.size w w' := by
  unfold M.notLess
  obtain ⟨l, r⟩ := r
  have h1 := Lib.hid (fun W => impl_IsLess_c r l W (by have := hr.2; simp at this; omega) (by have := hr.1; simp at this; omega))
  simp only
  generalize M.IsLess r l = x at *
  cases x
  all_goals
    go_enter Try.func123, Try.ntmps123
    go_wp2_with fail
    refine (h1.out _).mono ?_
    rintro e w1 ⟨rfl, hb⟩
    go_wp2_with fail
    go_ret
    exact ⟨rfl, below_alloc1 hb⟩
set_option maxRecDepth 100000 in
set_option maxHeartbeats 1000000 in
theorem RulesOk1_c (k : Int) (b : Nat) (r : M.Rule) (w : World) (hk : w.cell? ⟨b, 0, none⟩ = some (.int .i64 k)) (hr : r.left.length ≤ 1048576 ∧ r.right.length ≤ 1048576) : Calls Try.prog 164 #[.agg #[.string ⟨r.left.toArray⟩, .string ⟨r.right.toArray⟩], .pointer (some ⟨b, 0, none⟩)] w fun e w' => e = .returned (.bool (M.ruleBad k r)) ∧ Below w.heap.size w w' := by
  unfold M.ruleBad
  obtain ⟨l, r⟩ := r
  simp only at hr
  have h1 := Lib.hid (fun W => impl_SidesOk_c k l r W hr.1 hr.2)
  have hk' := allocKeep1 hk
  simp only
  generalize M.SidesOk k ⟨l, r⟩ = x at *
  cases x
  case false =>
    go_enter Try.func164, Try.ntmps164
    go_wp2_with fail
    refine (h1.out _).mono ?_
    rintro e w1 ⟨rfl, hb⟩
    go_wp2_with fail
    go_ret
    exact ⟨rfl, below_alloc1 hb⟩
  case true =>
    cases l
    all_goals
      go_enter Try.func164, Try.ntmps164
      go_wp2_with fail
      refine (h1.out _).mono ?_
      rintro e w1 ⟨rfl, hb⟩
      have c1 := cellKeep (b := w.heap.size) (o := 0) hb (by simp [go_sem]; rfl)
      go_wp2_with fail
      go_ret
      exact ⟨rfl, below_alloc1 hb⟩
set_option maxRecDepth 100000 in
set_option maxHeartbeats 1000000 in
theorem IndexFuncSystemOk1_c (A : Option Addr) (c : Nat) (rs : List M.Rule) (w : World) (hA : Rd w 2 A rs.length (ruls rs)) (hl : rs.length ≤ 1048576) (hs : ∀ r ∈ rs, r.left.length ≤ 1048576 ∧ r.right.length ≤ 1048576) :
    Calls Try.prog 162 #[.slice A rs.length c, .func (.func 123) #[] #[]] w fun e w' => (∃ z : Int, e = .returned (.int .i64 z) ∧ decide (0 ≤ z) = rs.any M.notLess) ∧ Below w.heap.size w w' := by
  have HA := Lib.hid hA
  have HS := Lib.hid hs
  obtain ⟨q, hq⟩ : ∃ q, q = rs.any M.notLess := ⟨_, rfl⟩
  rw [← hq]
  have HQ := Lib.hid hq
  obtain ⟨m, hm⟩ : ∃ m, m = rs.length := ⟨_, rfl⟩
  have hmb : m ≤ 1048576 := by omega
  rw [← hm]
  have HM := Lib.hid hm
  clear hA hs hq hm hl
  go_enter Try.func162, Try.ntmps162
  go_wp2
  go_loopw [8] (fun i wr => ∃ (k : Nat), k ≤ m ∧ i = .int .i64 k ∧ (rs.drop k).any M.notLess = q ∧ Below w.heap.size w wr) (fun i _ => m - (intOf i).toNat)
  case atStart => exact ⟨0, by omega, rfl, by rw [List.drop_zero, HQ.out], Below.refl _ _⟩
  case round =>
    obtain ⟨k, hk, rfl, hf, hb⟩ := hrel
    have HB := Lib.hid hb
    have HF := Lib.hid hf
    clear hb hf
    by_cases hlt : k < m
    · obtain ⟨b, o, rfl, hz, hc1, hc2⟩ := (HA.out.below HB.out).ruleAt (k := k) (by have := HM.out; omega)
      have hd : (rs.drop k).any M.notLess = (M.notLess rs[k] || (rs.drop (k + 1)).any M.notLess) := by rw [List.drop_eq_getElem_cons hz, List.any_cons]
      have HC := Lib.hid (fun W => SystemOk1_c rs[k] W (HS.out rs[k] (List.getElem_mem hz)))
      have HF2 := Lib.hid (hd.symm.trans HF.out)
      clear hd
      generalize rs[k] = r at *
      obtain ⟨rl, rr⟩ := r
      simp only at hc1 hc2 HC
      generalize M.notLess ⟨rl, rr⟩ = v at *
      cases v
      case true =>
        go_wp2_with fail
        refine (HC.out _).mono ?_
        rintro e w1 ⟨rfl, hb1⟩
        go_wp2_with fail
        go_ret
        exact ⟨⟨k, rfl, by have := HF2.out; rw [← this]; simp⟩, HB.out.trans (hb1.mono HB.out.size)⟩
      case false =>
        go_wp2_with fail
        refine (HC.out _).mono ?_
        rintro e w1 ⟨rfl, hb1⟩
        go_wp2_with fail
        go_roundw
        case rel => exact ⟨k + 1, by omega, by go_num, by have := HF2.out; rw [← this]; simp, HB.out.trans (hb1.mono HB.out.size)⟩
        case measure => simp [intOf]; omega
    · have e : q = false := by have := HF.out; rw [List.drop_eq_nil_of_le (by have := HM.out; omega)] at this; exact this.symm
      go_wp2
      go_ret
      exact ⟨⟨-1, rfl, by rw [e]; rfl⟩, HB.out⟩
set_option maxRecDepth 100000 in
set_option maxHeartbeats 1000000 in
theorem ContainsFuncSystemOk1_c (A : Option Addr) (c : Nat) (rs : List M.Rule) (w : World) (hA : Rd w 2 A rs.length (ruls rs)) (hl : rs.length ≤ 1048576) (hs : ∀ r ∈ rs, r.left.length ≤ 1048576 ∧ r.right.length ≤ 1048576) :
    Calls Try.prog 114 #[.slice A rs.length c, .func (.func 123) #[] #[]] w fun e w' => e = .returned (.bool (rs.any M.notLess)) ∧ Below w.heap.size w w' := by
  have h1 := Lib.hid (IndexFuncSystemOk1_c A c rs w hA hl hs)
  clear hA hs
  generalize rs.any M.notLess = q at *
  go_enter Try.func114, Try.ntmps114
  go_wp2_with fail
  refine h1.out.mono ?_
  rintro e w1 ⟨⟨z, rfl, hz⟩, hb⟩
  go_wp2_with fail
  go_ret
  exact ⟨rfl, hb⟩
set_option maxRecDepth 100000 in
set_option maxHeartbeats 1000000 in
theorem IndexFuncRulesOk1_c (k0 : Int) (b0 : Nat) (A : Option Addr) (c : Nat) (rs : List M.Rule) (w : World) (h0 : w.cell? ⟨b0, 0, none⟩ = some (.int .i64 k0)) (hA : Rd w 2 A rs.length (ruls rs)) (hl : rs.length ≤ 1048576) (hs : ∀ r ∈ rs, r.left.length ≤ 1048576 ∧ r.right.length ≤ 1048576) :
    Calls Try.prog 162 #[.slice A rs.length c, .func (.func 164) #[] #[.pointer (some ⟨b0, 0, none⟩)]] w fun e w' => (∃ z : Int, e = .returned (.int .i64 z) ∧ decide (0 ≤ z) = rs.any (M.ruleBad k0)) ∧ Below w.heap.size w w' := by
  have HA := Lib.hid hA
  have HS := Lib.hid hs
  have H0 := Lib.hid h0
  clear h0
  obtain ⟨q, hq⟩ : ∃ q, q = rs.any (M.ruleBad k0) := ⟨_, rfl⟩
  rw [← hq]
  have HQ := Lib.hid hq
  obtain ⟨m, hm⟩ : ∃ m, m = rs.length := ⟨_, rfl⟩
  have hmb : m ≤ 1048576 := by omega
  rw [← hm]
  have HM := Lib.hid hm
  clear hA hs hq hm hl
  go_enter Try.func162, Try.ntmps162
  go_wp2
  go_loopw [8] (fun i wr => ∃ (k : Nat), k ≤ m ∧ i = .int .i64 k ∧ (rs.drop k).any (M.ruleBad k0) = q ∧ Below w.heap.size w wr) (fun i _ => m - (intOf i).toNat)
  case atStart => exact ⟨0, by omega, rfl, by rw [List.drop_zero, HQ.out], Below.refl _ _⟩
  case round =>
    obtain ⟨k, hk, rfl, hf, hb⟩ := hrel
    have HB := Lib.hid hb
    have HF := Lib.hid hf
    clear hb hf
    by_cases hlt : k < m
    · obtain ⟨b, o, rfl, hz, hc1, hc2⟩ := (HA.out.below HB.out).ruleAt (k := k) (by have := HM.out; omega)
      have hd : (rs.drop k).any (M.ruleBad k0) = ((M.ruleBad k0) rs[k] || (rs.drop (k + 1)).any (M.ruleBad k0)) := by rw [List.drop_eq_getElem_cons hz, List.any_cons]
      have HC := Lib.hid (fun W h => RulesOk1_c k0 b0 rs[k] W h (HS.out rs[k] (List.getElem_mem hz)))
      have HF2 := Lib.hid (hd.symm.trans HF.out)
      clear hd
      generalize rs[k] = r at *
      obtain ⟨rl, rr⟩ := r
      simp only at hc1 hc2 HC
      generalize (M.ruleBad k0) ⟨rl, rr⟩ = v at *
      cases v
      case true =>
        go_wp2_with fail
        refine (HC.out _ (cellKeep HB.out H0.out)).mono ?_
        rintro e w1 ⟨rfl, hb1⟩
        go_wp2_with fail
        go_ret
        exact ⟨⟨k, rfl, by have := HF2.out; rw [← this]; simp⟩, HB.out.trans (hb1.mono HB.out.size)⟩
      case false =>
        go_wp2_with fail
        refine (HC.out _ (cellKeep HB.out H0.out)).mono ?_
        rintro e w1 ⟨rfl, hb1⟩
        go_wp2_with fail
        go_roundw
        case rel => exact ⟨k + 1, by omega, by go_num, by have := HF2.out; rw [← this]; simp, HB.out.trans (hb1.mono HB.out.size)⟩
        case measure => simp [intOf]; omega
    · have e : q = false := by have := HF.out; rw [List.drop_eq_nil_of_le (by have := HM.out; omega)] at this; exact this.symm
      go_wp2
      go_ret
      exact ⟨⟨-1, rfl, by rw [e]; rfl⟩, HB.out⟩
set_option maxRecDepth 100000 in
set_option maxHeartbeats 1000000 in
theorem ContainsFuncRulesOk1_c (k0 : Int) (b0 : Nat) (A : Option Addr) (c : Nat) (rs : List M.Rule) (w : World) (h0 : w.cell? ⟨b0, 0, none⟩ = some (.int .i64 k0)) (hA : Rd w 2 A rs.length (ruls rs)) (hl : rs.length ≤ 1048576) (hs : ∀ r ∈ rs, r.left.length ≤ 1048576 ∧ r.right.length ≤ 1048576) :
    Calls Try.prog 114 #[.slice A rs.length c, .func (.func 164) #[] #[.pointer (some ⟨b0, 0, none⟩)]] w fun e w' => e = .returned (.bool (rs.any (M.ruleBad k0))) ∧ Below w.heap.size w w' := by
  have h1 := Lib.hid (IndexFuncRulesOk1_c k0 b0 A c rs w h0 hA hl hs)
  clear hA hs
  generalize rs.any (M.ruleBad k0) = q at *
  go_enter Try.func114, Try.ntmps114
  go_wp2_with fail
  refine h1.out.mono ?_
  rintro e w1 ⟨⟨z, rfl, hz⟩, hb⟩
  go_wp2_with fail
  go_ret
  exact ⟨rfl, hb⟩

end Go.Proofs.Ytlohpphmamapeaa
/-
  Contracts of RulesOk and SystemOk.
  Conditions: at most 2^20 rules, their lengths at most 2^20.
-/
namespace Go.Proofs.Ytlohpphmamapeaa
open Go.RowKit
set_option linter.unusedVariables false

theorem rulesOk_no1 {k : Int} {rs : List M.Rule} (h : M.within k 1 4 = false) : M.RulesOk k rs = false := by unfold M.RulesOk; rw [h]; rfl
theorem rulesOk_no2 {k : Int} {rs : List M.Rule} (h : ¬ rs.length ≤ 12) : M.RulesOk k rs = false := by unfold M.RulesOk; rw [decide_eq_false h]; simp
theorem rulesOk_yes {k : Int} {rs : List M.Rule} (h : M.within k 1 4 = true) (h2 : rs.length ≤ 12) : M.RulesOk k rs = !rs.any (M.ruleBad k) := by unfold M.RulesOk; rw [decide_eq_true h2, h]; simp

set_option maxRecDepth 100000 in
set_option maxHeartbeats 2000000 in
theorem impl_RulesOk_c (k : Int) (A : Option Addr) (c : Nat) (rs : List M.Rule) (w : World) (hA : Rd w 2 A rs.length (ruls rs)) (hl : rs.length ≤ 1048576) (hs : ∀ r ∈ rs, r.left.length ≤ 1048576 ∧ r.right.length ≤ 1048576) :
    Calls Try.prog 122 #[.agg #[.int .i64 k, .slice A rs.length c]] w fun e w' => e = .returned (.bool (M.RulesOk k rs)) ∧ Below w.heap.size w w' := by
  have HA := Lib.hid hA
  have HS := Lib.hid hs
  have h1 := Lib.hid (fun W => within_c k 1 4 W)
  obtain ⟨x, hx⟩ : ∃ x, x = M.within k 1 4 := ⟨_, rfl⟩
  rw [← hx] at h1
  cases x
  case false =>
    rw [rulesOk_no1 hx.symm]
    clear hx hA hs
    go_enter Try.func122, Try.ntmps122
    go_wp2_with fail
    refine (h1.out _).mono ?_
    rintro e w1 ⟨rfl, rfl⟩
    go_wp2_with fail
    go_ret
    exact ⟨rfl, (Below.refl _ _).alloc (Nat.le_refl _) _⟩
  case true =>
  by_cases h12 : rs.length ≤ 12
  case neg =>
    rw [rulesOk_no2 h12]
    have h12' : 12 < rs.length := by omega
    clear hx hA hs h12
    go_enter Try.func122, Try.ntmps122
    go_wp2_with fail
    refine (h1.out _).mono ?_
    rintro e w1 ⟨rfl, rfl⟩
    go_wp2_with fail
    go_ret
    exact ⟨rfl, (Below.refl _ _).alloc (Nat.le_refl _) _⟩
  case pos =>
    rw [rulesOk_yes hx.symm h12]
    have h2 := Lib.hid (fun b0 W h0 hA => ContainsFuncRulesOk1_c k b0 A c rs W h0 hA hl hs)
    have hmf : ∀ (fn : Fn) (first cap : Array Value) (w : World), (Instr.makeFunc fn first cap).run Try.prog w = .ok (.func fn first cap) w := fun _ _ _ _ => rfl
    have h12' : ¬ 12 < rs.length := by omega
    clear hx hA hs h12
    generalize rs.any (M.ruleBad k) = q at *
    go_enter Try.func122, Try.ntmps122
    go_wp2_with fail
    refine (h1.out _).mono ?_
    rintro e w1 ⟨rfl, rfl⟩
    go_wp2_with fail
    refine (h2.out _ _ (by simp [go_sem]) (HA.out.below ((Below.refl _ _).alloc (Nat.le_refl _) _))).mono ?_
    rintro e w1 ⟨rfl, hb⟩
    go_wp2_with fail
    go_ret
    exact ⟨rfl, below_alloc1 hb⟩
set_option maxRecDepth 100000 in
set_option maxHeartbeats 2000000 in
theorem spec_RulesOk_c (k : Int) (A : Option Addr) (c : Nat) (rs : List M.Rule) (w : World) (hA : Rd w 2 A rs.length (ruls rs)) (hl : rs.length ≤ 1048576) (hs : ∀ r ∈ rs, r.left.length ≤ 1048576 ∧ r.right.length ≤ 1048576) :
    Calls Try.prog 120 #[.agg #[.int .i64 k, .slice A rs.length c]] w fun e w' => e = .returned (.bool (M.RulesOk k rs)) ∧ Below w.heap.size w w' := by
  have HA := Lib.hid hA
  have HS := Lib.hid hs
  have h1 := Lib.hid (fun W => l01In_c k 1 4 W)
  obtain ⟨x, hx⟩ : ∃ x, x = M.within k 1 4 := ⟨_, rfl⟩
  rw [← hx] at h1
  cases x
  case false =>
    rw [rulesOk_no1 hx.symm]
    clear hx hA hs
    go_enter Try.func120, Try.ntmps120
    go_wp2_with fail
    refine (h1.out _).mono ?_
    rintro e w1 ⟨rfl, rfl⟩
    go_wp2_with fail
    go_ret
    exact ⟨rfl, (Below.refl _ _).alloc (Nat.le_refl _) _⟩
  case true =>
  by_cases h12 : rs.length ≤ 12
  case neg =>
    rw [rulesOk_no2 h12]
    have h12' : 12 < rs.length := by omega
    clear hx hA hs h12
    go_enter Try.func120, Try.ntmps120
    go_wp2_with fail
    refine (h1.out _).mono ?_
    rintro e w1 ⟨rfl, rfl⟩
    go_wp2_with fail
    go_ret
    exact ⟨rfl, (Below.refl _ _).alloc (Nat.le_refl _) _⟩
  case pos =>
    rw [rulesOk_yes hx.symm h12]
    obtain ⟨q, hq⟩ : ∃ q, q = rs.any (M.ruleBad k) := ⟨_, rfl⟩
    rw [← hq]
    have HQ := Lib.hid hq
    have hc0 : ∀ o, (w.alloc (.cells #[.int .i64 k, .slice A rs.length c] o)).cell? ⟨w.heap.size, 0, none⟩ = some (.int .i64 k) := fun o => by simp [go_sem]
    obtain ⟨m, hm⟩ : ∃ m, m = rs.length := ⟨_, rfl⟩
    have hmb : m ≤ 12 := by omega
    have hmb' : ¬ 12 < m := by omega
    rw [← hm] at hc0 ⊢
    have HM := Lib.hid hm
    clear hA hs hq hm hl hx h12
    go_enter Try.func120, Try.ntmps120
    go_wp2_with fail
    refine (h1.out _).mono ?_
    rintro e w1 ⟨rfl, rfl⟩
    go_wp2_with fail
    go_loopw [18] (fun i wr => ∃ (j : Nat), j ≤ m ∧ i = .int .i64 j ∧ (rs.drop j).any (M.ruleBad k) = q ∧ wr.cell? ⟨w.heap.size, 0, none⟩ = some (.int .i64 k) ∧ Below w.heap.size w wr) (fun i _ => m - (intOf i).toNat)
    case atStart => exact ⟨0, by omega, rfl, by rw [List.drop_zero, HQ.out], by simp [go_sem], (Below.refl _ _).alloc (Nat.le_refl _) _⟩
    case round =>
      obtain ⟨j, hj, rfl, hf, hk0, hb⟩ := hrel
      have HB := Lib.hid hb
      have HF := Lib.hid hf
      clear hb hf hc0
      by_cases hlt : j < m
      · obtain ⟨b, o, rfl, hz, hc1, hc2⟩ := (HA.out.below HB.out).ruleAt (k := j) (by have := HM.out; omega)
        have hd : (rs.drop j).any (M.ruleBad k) = (M.ruleBad k rs[j] || (rs.drop (j + 1)).any (M.ruleBad k)) := by rw [List.drop_eq_getElem_cons hz, List.any_cons]
        have hsz := HS.out rs[j] (List.getElem_mem hz)
        have HF2 := Lib.hid (hd.symm.trans HF.out)
        clear hd
        generalize rs[j] = r at *
        obtain ⟨rl, rr⟩ := r
        simp only at hc1 hc2 hsz
        have HC := Lib.hid (fun W => spec_SidesOk_c k rl rr W hsz.1 hsz.2)
        have hk1 := allocKeep1 hk0
        unfold M.ruleBad at HF2
        simp only at HF2
        obtain ⟨y, hy⟩ : ∃ y, y = M.SidesOk k ⟨rl, rr⟩ := ⟨_, rfl⟩
        rw [← hy] at HC HF2
        clear hy
        cases y
        case false =>
          go_wp2_with fail
          refine (HC.out _).mono ?_
          rintro e w1 ⟨rfl, hb1⟩
          go_wp2_with fail
          go_ret
          exact ⟨by have := HF2.out; rw [← this]; rfl, HB.out.trans ((below_alloc1 hb1).mono HB.out.size)⟩
        case true =>
          cases rl with
          | nil =>
            go_wp2_with fail
            refine (HC.out _).mono ?_
            rintro e w1 ⟨rfl, hb1⟩
            have c1 := cellKeep (b := wr.heap.size) (o := 0) hb1 (by simp [go_sem]; rfl)
            go_wp2_with fail
            go_ret
            exact ⟨by have := HF2.out; rw [← this]; rfl, HB.out.trans ((below_alloc1 hb1).mono HB.out.size)⟩
          | cons ch tl =>
            go_wp2_with fail
            refine (HC.out _).mono ?_
            rintro e w1 ⟨rfl, hb1⟩
            have c1 := cellKeep (b := wr.heap.size) (o := 0) hb1 (by simp [go_sem]; rfl)
            have c2 := cellKeep hb1 (hk1 _)
            go_wp2_with fail
            go_roundw
            case rel => exact ⟨j + 1, by omega, by go_num, by have := HF2.out; rw [← this]; rfl, c2, HB.out.trans ((below_alloc1 hb1).mono HB.out.size)⟩
            case measure => simp [intOf]; omega
      · have e : q = false := by have := HF.out; rw [List.drop_eq_nil_of_le (by have := HM.out; omega)] at this; exact this.symm
        go_wp2
        go_ret
        exact ⟨by rw [e]; rfl, HB.out⟩
set_option maxRecDepth 100000 in
set_option maxHeartbeats 2000000 in
theorem impl_SystemOk_c (k : Int) (A : Option Addr) (c : Nat) (rs : List M.Rule) (w : World) (hA : Rd w 2 A rs.length (ruls rs)) (hl : rs.length ≤ 1048576) (hs : ∀ r ∈ rs, r.left.length ≤ 1048576 ∧ r.right.length ≤ 1048576) :
    Calls Try.prog 63 #[.agg #[.int .i64 k, .slice A rs.length c]] w fun e w' => e = .returned (.bool (M.SystemOk k rs)) ∧ Below w.heap.size w w' := by
  unfold M.SystemOk
  have HA := Lib.hid hA
  have h1 := Lib.hid (fun W hA => impl_RulesOk_c k A c rs W hA hl hs)
  have h2 := Lib.hid (fun W hA => ContainsFuncSystemOk1_c A c rs W hA hl hs)
  clear hA hs
  generalize rs.any M.notLess = y at *
  generalize M.RulesOk k rs = x at *
  cases x
  all_goals
    go_enter Try.func63, Try.ntmps63
    go_wp2_with fail
    refine (h1.out _ (HA.out.below ((Below.refl _ _).alloc (Nat.le_refl _) _))).mono ?_
    rintro e w1 ⟨rfl, hb⟩
    have hb0 := below_alloc1 hb
  · go_wp2_with fail
    go_ret
    exact ⟨rfl, hb0⟩
  ·
    have c1 : w1.cell? ⟨w.heap.size, 1, none⟩ = some (.slice A rs.length c) := cellKeep hb (by simp [go_sem])
    go_wp2_with fail
    refine (h2.out _ (HA.out.below hb0)).mono ?_
    rintro e w2 ⟨rfl, hb2⟩
    go_wp2_with fail
    go_ret
    exact ⟨rfl, hb0.trans (hb2.mono hb0.size)⟩
set_option maxRecDepth 100000 in
set_option maxHeartbeats 2000000 in
theorem spec_SystemOk_c (k : Int) (A : Option Addr) (c : Nat) (rs : List M.Rule) (w : World) (hA : Rd w 2 A rs.length (ruls rs)) (hl : rs.length ≤ 1048576) (hs : ∀ r ∈ rs, r.left.length ≤ 1048576 ∧ r.right.length ≤ 1048576) :
    Calls Try.prog 60 #[.agg #[.int .i64 k, .slice A rs.length c]] w fun e w' => e = .returned (.bool (M.SystemOk k rs)) ∧ Below w.heap.size w w' := by
  unfold M.SystemOk
  have HA := Lib.hid hA
  have HS := Lib.hid hs
  have h1 := Lib.hid (fun W hA => spec_RulesOk_c k A c rs W hA hl hs)
  generalize M.RulesOk k rs = x at *
  cases x
  case false =>
    clear hA hs
    go_enter Try.func60, Try.ntmps60
    go_wp2_with fail
    refine (h1.out _ (HA.out.below ((Below.refl _ _).alloc (Nat.le_refl _) _))).mono ?_
    rintro e w1 ⟨rfl, hb⟩
    go_wp2_with fail
    go_ret
    exact ⟨rfl, below_alloc1 hb⟩
  case true =>
    obtain ⟨q, hq⟩ : ∃ q, q = rs.any M.notLess := ⟨_, rfl⟩
    rw [← hq]
    have HQ := Lib.hid hq
    have HM := Lib.hid hl
    clear hA hs hq
    go_enter Try.func60, Try.ntmps60
    go_wp2_with fail
    refine (h1.out _ (HA.out.below ((Below.refl _ _).alloc (Nat.le_refl _) _))).mono ?_
    rintro e w1 ⟨rfl, hb⟩
    have c1 : w1.cell? ⟨w.heap.size, 1, none⟩ = some (.slice A rs.length c) := cellKeep hb (by simp [go_sem])
    have hb0 := below_alloc1 hb
    clear hb
    go_wp2_with fail
    go_loopw [11] (fun i wr => ∃ (j : Nat), j ≤ rs.length ∧ i = .int .i64 j ∧ (rs.drop j).any M.notLess = q ∧ Below w.heap.size w wr) (fun i _ => rs.length - (intOf i).toNat)
    case atStart => exact ⟨0, by omega, rfl, by rw [List.drop_zero, HQ.out], hb0⟩
    case round =>
      obtain ⟨j, hj, rfl, hf, hb⟩ := hrel
      have HB := Lib.hid hb
      have HF := Lib.hid hf
      clear hb hf hb0
      by_cases hlt : j < rs.length
      · obtain ⟨b, o, rfl, hz, hc1, hc2⟩ := (HA.out.below HB.out).ruleAt (k := j) hlt
        have hd : (rs.drop j).any M.notLess = (M.notLess rs[j] || (rs.drop (j + 1)).any M.notLess) := by rw [List.drop_eq_getElem_cons hz, List.any_cons]
        have hsz := HS.out rs[j] (List.getElem_mem hz)
        have HF2 := Lib.hid (hd.symm.trans HF.out)
        clear hd
        generalize rs[j] = r at *
        obtain ⟨rl, rr⟩ := r
        simp only at hc1 hc2 hsz
        have HC := Lib.hid (fun W => toBelow1 (spec_IsLess_c rr rl W (by omega) (by omega)))
        unfold M.notLess at HF2
        simp only at HF2
        generalize M.IsLess rr rl = y at *
        cases y
        case false =>
          go_wp2_with fail
          refine (HC.out _).mono ?_
          rintro e w2 ⟨rfl, hb1⟩
          go_wp2_with fail
          go_ret
          exact ⟨by have := HF2.out; rw [← this]; rfl, HB.out.trans ((below_alloc1 hb1).mono HB.out.size)⟩
        case true =>
          go_wp2_with fail
          refine (HC.out _).mono ?_
          rintro e w2 ⟨rfl, hb1⟩
          go_wp2_with fail
          go_roundw
          case rel => exact ⟨j + 1, by omega, by go_num, by have := HF2.out; rw [← this]; rfl, HB.out.trans ((below_alloc1 hb1).mono HB.out.size)⟩
          case measure => simp [intOf]; omega
      · have e : q = false := by have := HF.out; rw [List.drop_eq_nil_of_le (by omega)] at this; exact this.symm
        go_wp2
        go_ret
        exact ⟨by rw [e]; rfl, HB.out⟩

end Go.Proofs.Ytlohpphmamapeaa
/-
  Contracts of PlacesOf, OverlapsOf and strings.HasPrefix.
  Conditions: lengths of at most 2^20.
-/
namespace Go.Proofs.Ytlohpphmamapeaa
open Go.RowKit
set_option linter.unusedVariables false

set_option maxRecDepth 100000 in
set_option maxHeartbeats 1000000 in
theorem HasPrefix_c (l p : List UInt8) (w : World) (hl : l.length ≤ 1048576) (hp : p.length ≤ 1048576) :
    Calls Try.prog 175 #[.string ⟨l.toArray⟩, .string ⟨p.toArray⟩] w fun e w' => e = .returned (.bool (M.pre p l)) ∧ w = w' := by
  by_cases h : p.length ≤ l.length
  · obtain ⟨y, hy⟩ : ∃ y, y = l.take p.length := ⟨_, rfl⟩
    by_cases he : y = p
    · rw [show M.pre p l = true from decide_eq_true (by rw [← hy]; exact he)]
      have hy' := hy.symm.trans he
      clear hy he
      go_enter Try.func175, Try.ntmps175
      go_wp2
      go_ret
      exact ⟨rfl, rfl⟩
    · rw [show M.pre p l = false from decide_eq_false (by rw [← hy]; exact he)]
      have he' : (y == p) = false := by simpa using he
      have hy' := hy.symm
      clear hy he
      go_enter Try.func175, Try.ntmps175
      go_wp2
      go_ret
      exact ⟨rfl, rfl⟩
  · rw [M.pre_short (by omega)]
    go_enter Try.func175, Try.ntmps175
    go_wp2
    go_ret
    exact ⟨rfl, rfl⟩

set_option maxRecDepth 100000 in
set_option maxHeartbeats 1000000 in
theorem spec_PlacesOf_c (l p : List UInt8) (w : World) (hl : l.length ≤ 1048576) (hp : p.length ≤ 1048576) :
    Calls Try.prog 146 #[.string ⟨l.toArray⟩, .string ⟨p.toArray⟩] w (RetRow 3 1 (M.PlacesOf l p).length (ints (M.PlacesOf l p)) w) := by
  by_cases h0 : p = []
  · subst h0
    go_enter Try.func146, Try.ntmps146
    go_wp2
    go_ret
    exact ⟨none, 0, rfl, World.ownsRow_nil _ _ _ _, Below.refl _ _⟩
  · have hP : M.PlacesOf l p = M.sel (fun i => M.pre p (l.drop i)) l.length := if_neg h0
    rw [hP]
    have hp0 : 0 < p.length := by cases p with | nil => exact absurd rfl h0 | cons a r => simp
    have hp1 : (p == []) = false := by simpa using h0
    have hp2 : p.isEmpty = false := by simpa using h0
    clear hP h0
    go_enter Try.func146, Try.ntmps146
    go_wp2
    go_loopw [5, 6] (fun s i wr => ∃ (k : Nat) (A : Option Addr) (n c : Nat), k ≤ l.length ∧ i = .int .i64 k ∧ s = .slice A n c ∧ n ≤ k ∧ n = (M.sel (fun i => M.pre p (l.drop i)) k).length ∧ wr.ownsRow w.heap.size 3 1 (.slice A n c) n (ints (M.sel (fun i => M.pre p (l.drop i)) k)) ∧ Below w.heap.size w wr) (fun _ i _ => l.length - (intOf i).toNat)
    case atStart => exact ⟨0, _, 0, 0, by omega, rfl, rfl, by omega, rfl, World.ownsRow_lit w #[] 0 (Nat.le_refl _) (by simp [maxLen]) (by simp), (Below.refl _ _).alloc (Nat.le_refl _) _⟩
    case round =>
      obtain ⟨k, A, n, c, hk, rfl, rfl, hnk, hn, hown, hb⟩ := hrel
      have HN := Lib.hid hn
      have HO := Lib.hid hown
      have HB := Lib.hid hb
      clear hn hown hb
      by_cases hlt : k + p.length ≤ l.length
      · obtain ⟨y, hy⟩ : ∃ y, y = (l.drop k).take p.length := ⟨_, rfl⟩
        by_cases he : y = p
        · have HS := Lib.hid (M.sel_yes (p := fun i => M.pre p (l.drop i)) (k := k) (decide_eq_true (by rw [← hy]; exact he)))
          have hy' := hy.symm.trans he
          clear hy he
          go_wp2_with (at_builtin; refine push_law rfl _ _ rfl slInt rfl HO.out (us := [.int .i64 k]) rfl rfl (by simp [Value.oneCell']) HB.out rfl (by omega) ?_; intro A' c' w' hown' hb')
          go_roundw
          case rel => exact ⟨k + 1, A', n + 1, c', by omega, by go_num, rfl, by omega, by rw [HS.out, HN.out]; simp, by rw [HS.out, ints_add]; exact hown', hb'⟩
          case measure => simp [intOf]; omega
        · have HS := Lib.hid (M.sel_no (p := fun i => M.pre p (l.drop i)) (k := k) (decide_eq_false (by rw [← hy]; exact he)))
          have he' : (y == p) = false := by simpa using he
          have hy' := hy.symm
          clear hy he
          go_wp2
          go_roundw
          case rel => exact ⟨k + 1, A, n, c, by omega, by go_num, rfl, by omega, by rw [HS.out, HN.out], by rw [HS.out]; exact HO.out, HB.out⟩
          case measure => simp [intOf]; omega
      · have HS := Lib.hid (M.sel_more (p := fun i => M.pre p (l.drop i)) (k := k) l.length hk (fun j h1 h2 => M.pre_short (by simp; omega)))
        go_wp2
        go_ret
        exact ⟨A, c, by rw [HS.out, ← HN.out]; rfl, by rw [HS.out, ← HN.out]; exact HO.out, HB.out⟩

set_option maxRecDepth 100000 in
set_option maxHeartbeats 1000000 in
theorem impl_PlacesOf_c (l p : List UInt8) (w : World) (hl : l.length ≤ 1048576) (hp : p.length ≤ 1048576) :
    Calls Try.prog 151 #[.string ⟨l.toArray⟩, .string ⟨p.toArray⟩] w (RetRow 3 1 (M.PlacesOf l p).length (ints (M.PlacesOf l p)) w) := by
  by_cases h0 : p = []
  · subst h0
    go_enter Try.func151, Try.ntmps151
    go_wp2
    go_ret
    exact ⟨none, 0, rfl, World.ownsRow_nil _ _ _ _, Below.refl _ _⟩
  · have hP : M.PlacesOf l p = M.sel (fun i => M.pre p (l.drop i)) l.length := if_neg h0
    rw [hP]
    have hp1 : (p == []) = false := by simpa using h0
    have hp2 : p.isEmpty = false := by simpa using h0
    clear hP h0
    go_enter Try.func151, Try.ntmps151
    go_wp2
    go_loopw [5, 6, 11] (fun s _ i wr => ∃ (k : Nat) (A : Option Addr) (n c : Nat), k ≤ l.length ∧ i = .int .i64 k ∧ s = .slice A n c ∧ n ≤ k ∧ n = (M.sel (fun i => M.pre p (l.drop i)) k).length ∧ wr.ownsRow w.heap.size 3 1 (.slice A n c) n (ints (M.sel (fun i => M.pre p (l.drop i)) k)) ∧ Below w.heap.size w wr) (fun _ _ i _ => l.length - (intOf i).toNat)
    case atStart => exact ⟨0, none, 0, 0, by omega, rfl, rfl, by omega, rfl, World.ownsRow_nil _ _ _ _, Below.refl _ _⟩
    case round =>
      obtain ⟨k, A, n, c, hk, rfl, rfl, hnk, hn, hown, hb⟩ := hrel
      have HN := Lib.hid hn
      have HO := Lib.hid hown
      have HB := Lib.hid hb
      clear hn hown hb
      by_cases hlt : k < l.length
      · have HC := Lib.hid (fun W => HasPrefix_c (l.drop k) p W (by simp; omega) hp)
        cases he : M.pre p (l.drop k) with
        | true =>
          have HS := Lib.hid (M.sel_yes (p := fun i => M.pre p (l.drop i)) (k := k) he)
          have HE := Lib.hid he
          clear he
          go_wp2_with fail
          refine (HC.out _).mono ?_
          rw [HE.out]
          rintro e w1 ⟨rfl, rfl⟩
          go_wp2_with (at_builtin; refine push_law rfl _ _ rfl slInt rfl HO.out (us := [.int .i64 k]) rfl rfl (by simp [Value.oneCell']) HB.out rfl (by omega) ?_; intro A' c' w' hown' hb')
          go_roundw
          case rel => exact ⟨k + 1, A', n + 1, c', by omega, by go_num, rfl, by omega, by rw [HS.out, HN.out]; simp, by rw [HS.out, ints_add]; exact hown', hb'⟩
          case measure => simp [intOf]; omega
        | false =>
          have HS := Lib.hid (M.sel_no (p := fun i => M.pre p (l.drop i)) (k := k) he)
          have HE := Lib.hid he
          clear he
          go_wp2_with fail
          refine (HC.out _).mono ?_
          rw [HE.out]
          rintro e w1 ⟨rfl, rfl⟩
          go_wp2
          go_roundw
          case rel => exact ⟨k + 1, A, n, c, by omega, by go_num, rfl, by omega, by rw [HS.out, HN.out], by rw [HS.out]; exact HO.out, HB.out⟩
          case measure => simp [intOf]; omega
      · obtain rfl : k = l.length := by omega
        go_wp2
        go_ret
        exact ⟨A, c, by rw [← HN.out]; rfl, by rw [← HN.out]; exact HO.out, HB.out⟩

theorem overlap_end {u v : List UInt8} {k : Nat} (h1 : 1 ≤ k) (h2 : ¬ (k < u.length ∧ k < v.length)) (h3 : k = 1 ∨ k ≤ min u.length v.length) : M.OverlapsOf u v = M.sel (M.overlapAt u v) k := by
  unfold M.OverlapsOf
  rcases h3 with h3 | h3
  · subst h3
    by_cases h : 1 ≤ min u.length v.length
    · have : min u.length v.length = 1 := by omega
      rw [this]
    · have : min u.length v.length = 0 := by omega
      rw [this]
      exact (M.sel_no (p := M.overlapAt u v) (k := 0) (by simp [M.overlapAt])).symm
  · have : min u.length v.length = k := by omega
    rw [this]
set_option maxRecDepth 100000 in
set_option maxHeartbeats 1000000 in
theorem spec_OverlapsOf_c (l p : List UInt8) (w : World) (hl : l.length ≤ 1048576) (hp : p.length ≤ 1048576) :
    Calls Try.prog 188 #[.string ⟨l.toArray⟩, .string ⟨p.toArray⟩] w (RetRow 3 1 (M.OverlapsOf l p).length (ints (M.OverlapsOf l p)) w) := by
  go_enter Try.func188, Try.ntmps188
  go_wp2
  go_loopw [5, 6] (fun s i wr => ∃ (k : Nat) (A : Option Addr) (n c : Nat), 1 ≤ k ∧ (k = 1 ∨ k ≤ min l.length p.length) ∧ i = .int .i64 k ∧ s = .slice A n c ∧ n ≤ k ∧ n = (M.sel (M.overlapAt l p) k).length ∧ wr.ownsRow w.heap.size 3 1 (.slice A n c) n (ints (M.sel (M.overlapAt l p) k)) ∧ Below w.heap.size w wr) (fun _ i _ => l.length - (intOf i).toNat)
  case atStart =>
    have h0 : M.sel (M.overlapAt l p) 1 = [] := M.sel_no (p := M.overlapAt l p) (k := 0) (by simp [M.overlapAt])
    exact ⟨1, _, 0, 0, by omega, Or.inl rfl, rfl, rfl, by omega, by rw [h0]; rfl, by rw [h0]; exact World.ownsRow_lit w #[] 0 (Nat.le_refl _) (by simp [maxLen]) (by simp), (Below.refl _ _).alloc (Nat.le_refl _) _⟩
  case round =>
    obtain ⟨k, A, n, c, hk1, hk2, rfl, rfl, hnk, hn, hown, hb⟩ := hrel
    have HN := Lib.hid hn
    have HO := Lib.hid hown
    have HB := Lib.hid hb
    have HK := Lib.hid hk2
    clear hn hown hb hk2
    by_cases hlt : k < l.length ∧ k < p.length
    · obtain ⟨hlt1, hlt2⟩ := hlt
      have hsub : (l.length : Int) - k = ((l.length - k : Nat) : Int) := by omega
      obtain ⟨m, hm⟩ : ∃ m, m = l.length - k := ⟨_, rfl⟩
      rw [← hm] at hsub
      have hm1 : m ≤ l.length := by omega
      obtain ⟨y, hy⟩ : ∃ y, y = l.drop m := ⟨_, rfl⟩
      obtain ⟨z, hz⟩ : ∃ z, z = p.take k := ⟨_, rfl⟩
      have hy' := hy.symm
      have hz' := hz.symm
      by_cases he : y = z
      · have HS := Lib.hid (M.sel_yes (p := M.overlapAt l p) (k := k) (by unfold M.overlapAt; rw [← hm, ← hy, ← hz, he]; simp; omega))
        subst he
        clear hy hz hm
        go_wp2
        go_quiet (fail)
        go_wp2_with (at_builtin; refine push_law_drew rfl _ _ rfl slInt rfl HO.out (us := [.int .i64 k]) rfl rfl (by simp [Value.oneCell']) HB.out rfl (by omega) ?_; intro A' c' w' hown' hb')
        go_roundw
        case rel => exact ⟨k + 1, A', n + 1, c', by omega, by omega, by go_num, rfl, by omega, by rw [HS.out, HN.out]; simp, by rw [HS.out, ints_add]; exact hown', hb'⟩
        case measure => simp [intOf]; omega
      · have HS := Lib.hid (M.sel_no (p := M.overlapAt l p) (k := k) (by unfold M.overlapAt; rw [← hm, ← hy, ← hz]; simp [he]))
        have he' : (y == z) = false := by simpa using he
        clear hy hz hm he
        go_wp2
        go_quiet (fail)
        go_wp2
        go_roundw
        case rel => exact ⟨k + 1, A, n, c, by omega, by omega, by go_num, rfl, by omega, by rw [HS.out, HN.out], by rw [HS.out]; exact HO.out, below_drewN HB.out _⟩
        case measure => simp [intOf]; omega
    · have HE := Lib.hid (overlap_end hk1 hlt HK.out)
      by_cases h1 : k < l.length
      · have h2 : ¬ k < p.length := by omega
        clear hlt
        go_wp2
        go_ret
        exact ⟨A, c, by rw [HE.out, ← HN.out]; rfl, by rw [HE.out, ← HN.out]; exact HO.out, HB.out⟩
      · clear hlt
        go_wp2
        go_ret
        exact ⟨A, c, by rw [HE.out, ← HN.out]; rfl, by rw [HE.out, ← HN.out]; exact HO.out, HB.out⟩
set_option maxRecDepth 100000 in
set_option maxHeartbeats 1000000 in
theorem impl_OverlapsOf_c (l p : List UInt8) (w : World) (hl : l.length ≤ 1048576) (hp : p.length ≤ 1048576) :
    Calls Try.prog 152 #[.string ⟨l.toArray⟩, .string ⟨p.toArray⟩] w (RetRow 3 1 (M.OverlapsOf l p).length (ints (M.OverlapsOf l p)) w) := by
  go_enter Try.func152, Try.ntmps152
  go_wp2
  go_loopw [5, 6] (fun s i wr => ∃ (k : Nat) (A : Option Addr) (n c : Nat), 1 ≤ k ∧ (k = 1 ∨ k ≤ min l.length p.length) ∧ i = .int .i64 k ∧ s = .slice A n c ∧ n ≤ k ∧ n = (M.sel (M.overlapAt l p) k).length ∧ wr.ownsRow w.heap.size 3 1 (.slice A n c) n (ints (M.sel (M.overlapAt l p) k)) ∧ Below w.heap.size w wr) (fun _ i _ => l.length - (intOf i).toNat)
  case atStart =>
    have h0 : M.sel (M.overlapAt l p) 1 = [] := M.sel_no (p := M.overlapAt l p) (k := 0) (by simp [M.overlapAt])
    exact ⟨1, none, 0, 0, by omega, Or.inl rfl, rfl, rfl, by omega, by rw [h0]; rfl, by rw [h0]; exact World.ownsRow_nil _ _ _ _, Below.refl _ _⟩
  case round =>
    obtain ⟨k, A, n, c, hk1, hk2, rfl, rfl, hnk, hn, hown, hb⟩ := hrel
    have HN := Lib.hid hn
    have HO := Lib.hid hown
    have HB := Lib.hid hb
    have HK := Lib.hid hk2
    clear hn hown hb hk2
    by_cases hmn : p.length < l.length
    all_goals
      by_cases hlt : k < l.length ∧ k < p.length
      · obtain ⟨hlt1, hlt2⟩ := hlt
        obtain ⟨q, hq⟩ : ∃ q : Nat, (q : Int) = min (l.length : Int) p.length := ⟨min l.length p.length, by omega⟩
        have hkq : (k : Int) < q := by omega
        have hsub : (l.length : Int) - k = ((l.length - k : Nat) : Int) := by omega
        obtain ⟨m, hm⟩ : ∃ m, m = l.length - k := ⟨_, rfl⟩
        rw [← hm] at hsub
        have hm1 : m ≤ l.length := by omega
        obtain ⟨y, hy⟩ : ∃ y, y = l.drop m := ⟨_, rfl⟩
        obtain ⟨z, hz⟩ : ∃ z, z = p.take k := ⟨_, rfl⟩
        have hy' := hy.symm
        have hz' := hz.symm
        by_cases he : y = z
        · have HS := Lib.hid (M.sel_yes (p := M.overlapAt l p) (k := k) (by unfold M.overlapAt; rw [← hm, ← hy, ← hz, he]; simp; omega))
          subst he
          clear hy hz hm hq hkq
          go_wp2
          go_quiet (fail)
          go_wp2_with (at_builtin; refine push_law_drew rfl _ _ rfl slInt rfl HO.out (us := [.int .i64 k]) rfl rfl (by simp [Value.oneCell']) HB.out rfl (by omega) ?_; intro A' c' w' hown' hb')
          go_roundw
          case rel => exact ⟨k + 1, A', n + 1, c', by omega, by omega, by go_num, rfl, by omega, by rw [HS.out, HN.out]; simp, by rw [HS.out, ints_add]; exact hown', hb'⟩
          case measure => simp [intOf]; omega
        · have HS := Lib.hid (M.sel_no (p := M.overlapAt l p) (k := k) (by unfold M.overlapAt; rw [← hm, ← hy, ← hz]; simp [he]))
          have he' : (y == z) = false := by simpa using he
          clear hy hz hm he hq hkq
          go_wp2
          go_quiet (fail)
          go_wp2
          go_roundw
          case rel => exact ⟨k + 1, A, n, c, by omega, by omega, by go_num, rfl, by omega, by rw [HS.out, HN.out], by rw [HS.out]; exact HO.out, below_drewN HB.out _⟩
          case measure => simp [intOf]; omega
      · have HE := Lib.hid (overlap_end hk1 hlt HK.out)
        go_wp2
        go_ret
        exact ⟨A, c, by rw [HE.out, ← HN.out]; rfl, by rw [HE.out, ← HN.out]; exact HO.out, HB.out⟩

end Go.Proofs.Ytlohpphmamapeaa
/-
  Contracts of StepsOf.
  Conditions: at most 2^20 rules, words of at most 2^20 bytes.
-/
namespace Go.Proofs.Ytlohpphmamapeaa
open Go.RowKit
set_option linter.unusedVariables false

theorem rules12 {k : Int} {rs : List M.Rule} (h : M.RulesOk k rs = true) : rs.length ≤ 12 := by
  unfold M.RulesOk at h
  simp only [Bool.and_eq_true, decide_eq_true_eq] at h
  omega
theorem steps_yes {k : Int} {rs : List M.Rule} {l : List UInt8} (h : M.RulesOk k rs = true) : M.StepsOf k rs l = M.stepsTo rs l l.length := if_pos h
theorem steps_no {k : Int} {rs : List M.Rule} {l : List UInt8} (h : M.RulesOk k rs = false) : M.StepsOf k rs l = [] := if_neg (by rw [h]; simp)
theorem steps_add (a b : List M.Step) : steps_ (a ++ b) = steps_ a ++ steps_ b := by simp [steps_]
theorem steps_bound {rs : List M.Rule} {l : List UInt8} {p k : Nat} (hr : rs.length ≤ 12) (hl : l.length ≤ 1048576) (hp : p ≤ l.length) (hk : k ≤ rs.length) : (M.stepsTo rs l p ++ M.stepsRow rs l p k).length ≤ 13000000 := by
  have h1 := M.to_len rs l p
  have h2 := M.row_len rs l p k
  have h3 : p * rs.length ≤ 1048576 * 12 := Nat.mul_le_mul (by omega) hr
  rw [List.length_append]
  omega
set_option maxRecDepth 100000 in
set_option maxHeartbeats 4000000 in
theorem spec_StepsOf_c (k : Int) (A : Option Addr) (c : Nat) (rs : List M.Rule) (l : List UInt8) (w : World) (hA : Rd w 2 A rs.length (ruls rs)) (hl : rs.length ≤ 1048576) (hs : ∀ r ∈ rs, r.left.length ≤ 1048576 ∧ r.right.length ≤ 1048576) (hll : l.length ≤ 1048576) :
    Calls Try.prog 171 #[.agg #[.int .i64 k, .slice A rs.length c], .string ⟨l.toArray⟩] w (RetRd (fun A c => .slice A (M.StepsOf k rs l).length c) 2 (M.StepsOf k rs l).length (steps_ (M.StepsOf k rs l)) w) := by
  have h1 := Lib.hid (fun W hA => spec_RulesOk_c k A c rs W hA hl hs)
  have HA := Lib.hid hA
  have HS := Lib.hid hs
  have HP := Lib.hid (fun (o : Obj) => (Below.refl w.heap.size w).alloc (Nat.le_refl _) o)
  clear hA hs
  obtain ⟨x, hx⟩ : ∃ x, x = M.RulesOk k rs := ⟨_, rfl⟩
  rw [← hx] at h1
  cases x
  case false =>
    rw [steps_no hx.symm]
    clear hx
    go_enter Try.func171, Try.ntmps171
    go_wp2_with fail
    refine (h1.out _ (HA.out.below (HP.out _))).mono ?_
    rintro e w1 ⟨rfl, hb⟩
    go_wp2_with fail
    go_ret
    exact ⟨none, 0, rfl, ⟨rfl, fun h => absurd h (by simp)⟩, below_alloc1 hb⟩
  case true =>
  rw [steps_yes hx.symm]
  have h12 := rules12 hx.symm
  clear hx hl
  obtain ⟨zs, hzs⟩ : ∃ zs, zs = M.stepsTo rs l l.length := ⟨_, rfl⟩
  rw [← hzs]
  have HZ := Lib.hid hzs
  clear hzs
  obtain ⟨m, hm⟩ : ∃ m, m = rs.length := ⟨_, rfl⟩
  have HM := Lib.hid hm
  rw [← hm] at h12 ⊢
  have h13 := Lib.hid h12
  rw [← hm] at HA h1
  clear hm
  go_enter Try.func171, Try.ntmps171
  go_wp2_with fail
  refine (h1.out _ (HA.out.below (HP.out _))).mono ?_
  rintro e w1 ⟨rfl, hb⟩
  have D1 := Lib.hid (show w1.cell? ⟨w.heap.size, 1, none⟩ = some (.slice A m c) from cellKeep hb (by simp [go_sem]))
  have HB0 := Lib.hid (below_alloc1 hb)
  have HA1 := Lib.hid (HA.out.below HB0.out)
  clear hb
  have d1 := allocKeep1 D1.out
  go_wp2_with fail
  clear d1
  go_loopw [5, 6] (fun s z wr => ∃ (i : Nat) (A' : Option Addr) (m' c' : Nat), i ≤ l.length ∧ z = .int .i64 i ∧ s = .slice A' m' c' ∧ m' = (M.stepsTo rs l i ++ M.stepsRow rs l i 0).length ∧ wr.ownsRow w1.heap.size 129 2 (.slice A' m' c') m' (steps_ (M.stepsTo rs l i ++ M.stepsRow rs l i 0)) ∧ Below w1.heap.size w1 wr) (fun _ z _ => l.length - (intOf z).toNat)
  case atStart => exact ⟨0, _, 0, 0, by omega, rfl, rfl, rfl, World.ownsRow_lit w1 #[] 0 (Nat.le_refl _) (by simp [maxLen]) (by simp), (Below.refl _ _).alloc (Nat.le_refl _) _⟩
  case round =>
    obtain ⟨i, A', m', c', hi, rfl, rfl, hm', hown, hb⟩ := hrel
    have e1 := cellKeep hb D1.out
    have HN := Lib.hid hm'
    have HO := Lib.hid hown
    have HB := Lib.hid hb
    clear hm' hown hb
    by_cases hlt : i < l.length
    case neg =>
      obtain rfl : i = l.length := by omega
      have HE := Lib.hid (show M.stepsTo rs l l.length ++ M.stepsRow rs l l.length 0 = zs by rw [HZ.out]; simp [M.stepsRow])
      go_wp2
      go_ret
      exact ⟨A', c', by rw [← HE.out, ← HN.out]; rfl, by rw [← HE.out, ← HN.out]; exact (Own.of_row HO.out).mono HB0.out.size, HB0.out.trans (HB.out.mono HB0.out.size)⟩
    case pos =>
    obtain ⟨wo, hwo⟩ : ∃ wo : World, wo = wr := ⟨_, rfl⟩
    rw [← hwo] at HO HB e1 ⊢
    clear hwo
    go_wp2_with fail
    go_loopw [5, 22] (fun s z wr => ∃ (j : Nat) (A' : Option Addr) (m' c' : Nat), j ≤ m ∧ z = .int .i64 j ∧ s = .slice A' m' c' ∧ m' = (M.stepsTo rs l i ++ M.stepsRow rs l i j).length ∧ wr.ownsRow w1.heap.size 129 2 (.slice A' m' c') m' (steps_ (M.stepsTo rs l i ++ M.stepsRow rs l i j)) ∧ Below w1.heap.size w1 wr) (fun _ z _ => m - (intOf z).toNat)
    case atStart => exact ⟨0, A', m', c', by omega, rfl, rfl, HN.out, by first | exact HO.out | exact own_below HO.out (Below.refl _ _).drew, by first | exact HB.out | exact HB.out.drew⟩
    case round =>
      clear e1 HO HB HN
      obtain ⟨j, A2, m2, c2, hj, rfl, rfl, hm2, hown, hb⟩ := hrel
      have e1 := cellKeep hb D1.out
      have HB := Lib.hid hb
      have HO := Lib.hid hown
      have HN := Lib.hid hm2
      have hnb : m2 ≤ 13000000 := by rw [hm2]; exact steps_bound (by have h1 := HM.out; omega) hll (by omega) (by have h1 := HM.out; omega)
      clear hm2 hown hb
      by_cases hjm : j < m
      case neg =>
        obtain rfl : j = m := by omega
        have HE := Lib.hid (show M.stepsTo rs l (i + 1) ++ M.stepsRow rs l (i + 1) 0 = M.stepsTo rs l i ++ M.stepsRow rs l i j by rw [HM.out]; simp [M.stepsRow, M.stepsTo])
        go_wp2
        go_roundw
        case rel => exact ⟨i + 1, A2, m2, c2, by omega, by go_num, rfl, by rw [HE.out]; exact HN.out, by rw [HE.out]; exact HO.out, HB.out⟩
        case measure => simp [intOf]; omega
      case pos =>
      obtain ⟨b, o, rfl, hz, hc1, hc2⟩ := (HA1.out.below HB.out).ruleAt (k := j) hjm
      have hsz := (HS.out rs[j] (List.getElem_mem hz)).1
      have HIT := Lib.hid (M.hit_at (rs := rs) (l := l) (p := i) hz)
      generalize rs[j] = r at *
      obtain ⟨rl, rr⟩ := r
      simp only at hc1 hc2 hsz HIT

      by_cases hfit : i + rl.length ≤ l.length
      case neg =>
        have HY := Lib.hid (M.row_no (show M.hit rs l i j = false by rw [HIT.out]; exact M.pre_short (by simp; omega)))
        have hfit' : decide ((rl.length : Int) ≤ (l.length : Int) - i) = false := decide_eq_false (by omega)
        clear hfit
        go_wp2_with fail
        go_quiet (fail)
        go_wp2_with fail
        go_roundw
        case rel => exact ⟨j + 1, A2, m2, c2, by omega, by go_num, rfl, by rw [HY.out]; exact HN.out, by rw [HY.out]; exact own_below HO.out (by repeat (first | exact Below.refl _ _ | refine Below.alloc ?_ (by simp <;> omega) _ | refine below_drewN ?_ _ | refine Below.drew ?_)), HB.out.trans ((show Below wr.heap.size wr _ from (by repeat (first | exact Below.refl _ _ | refine Below.alloc ?_ (by simp <;> omega) _ | refine below_drewN ?_ _ | refine Below.drew ?_))).mono HB.out.size)⟩
        case measure => simp [intOf]; omega
      case pos =>
      have hfit' : decide ((rl.length : Int) ≤ (l.length : Int) - i) = true := decide_eq_true (by omega)
      obtain ⟨y, hy⟩ : ∃ y, y = (l.drop i).take rl.length := ⟨_, rfl⟩
      have hy' := hy.symm
      by_cases he : y = rl
      case pos =>
        have HY := Lib.hid (M.row_yes (show M.hit rs l i j = true by rw [HIT.out]; exact decide_eq_true (by rw [← hy]; exact he)))
        subst he
        clear hy
        go_wp2_with fail
        go_quiet (fail)
        go_wp2_with (at_builtin; first | (refine push_law rfl _ _ rfl slStep rfl (own_below HO.out ((Below.refl _ _).alloc (Nat.le_refl _) _)) (us := [.int .i64 j, .int .i64 i]) rfl rfl (by simp [Value.oneCell']) (HB.out.alloc HB.out.size _) rfl (by omega) ?_) | (refine push_law_drew rfl _ _ rfl slStep rfl (own_below HO.out ((Below.refl _ _).alloc (Nat.le_refl _) _)) (us := [.int .i64 j, .int .i64 i]) rfl rfl (by simp [Value.oneCell']) (HB.out.alloc HB.out.size _) rfl (by omega) ?_); intro A3 c3 w3 hown3 hb3)
        go_roundw
        case rel => exact ⟨j + 1, A3, m2 + 1, c3, by omega, by go_num, rfl, by rw [HY.out, ← List.append_assoc, List.length_append, ← HN.out]; rfl, by rw [HY.out, ← List.append_assoc, steps_add]; exact hown3, hb3⟩
        case measure => simp [intOf]; omega
      case neg =>
        have HY := Lib.hid (M.row_no (show M.hit rs l i j = false by rw [HIT.out]; exact decide_eq_false (by rw [← hy]; exact he)))
        have he' : (y == rl) = false := by simpa using he
        clear hy he
        go_wp2_with fail
        go_quiet (fail)
        go_wp2_with fail
        go_roundw
        case rel => exact ⟨j + 1, A2, m2, c2, by omega, by go_num, rfl, by rw [HY.out]; exact HN.out, by rw [HY.out]; exact own_below HO.out (by repeat (first | exact Below.refl _ _ | refine Below.alloc ?_ (by simp <;> omega) _ | refine below_drewN ?_ _ | refine Below.drew ?_)), HB.out.trans ((show Below wr.heap.size wr _ from (by repeat (first | exact Below.refl _ _ | refine Below.alloc ?_ (by simp <;> omega) _ | refine below_drewN ?_ _ | refine Below.drew ?_))).mono HB.out.size)⟩
        case measure => simp [intOf]; omega

end Go.Proofs.Ytlohpphmamapeaa
/-
  Contracts of FirstStep and LastStep.
  Conditions: at most 2^20 rules, words of at most 2^20 bytes.
-/
namespace Go.Proofs.Ytlohpphmamapeaa
open Go.RowKit
set_option linter.unusedVariables false

def M.FirstStep (k : Int) (rs : List M.Rule) (l : List UInt8) : M.Step × Bool := M.first (M.StepsOf k rs l)
def M.LastStep (k : Int) (rs : List M.Rule) (l : List UInt8) : M.Step × Bool := M.last (M.StepsOf k rs l)
/-- The two cells of a result after a store. -/
theorem frozenKeep {w w' : World} {b o : Nat} {u : Value} {f : Bool} (hb : Below w.heap.size w w') (hc : w.cell? ⟨b, o, none⟩ = some u) (h : w.frozen? ⟨b, o, none⟩ = f) : w'.frozen? ⟨b, o, none⟩ = f :=
  ((bcell hb).2 _ _ (World.block_lt_of_cell? w _ hc)).trans h
theorem stepsOf_len {k : Int} {rs : List M.Rule} {l : List UInt8} (hl : l.length ≤ 1048576) : (M.StepsOf k rs l).length ≤ 13000000 := by
  unfold M.StepsOf
  split
  · rename_i h
    have h1 := rules12 h
    have h2 := M.to_len rs l l.length
    have h3 : l.length * rs.length ≤ 1048576 * 12 := Nat.mul_le_mul hl h1
    omega
  · simp
theorem steps_pos {zs : List M.Step} (h : zs ≠ []) : 0 < zs.length := by cases zs <;> simp_all
set_option maxRecDepth 100000 in
set_option maxHeartbeats 1000000 in
theorem spec_FirstStep_c (k : Int) (A : Option Addr) (c : Nat) (rs : List M.Rule) (l : List UInt8) (w : World) (hA : Rd w 2 A rs.length (ruls rs)) (hl : rs.length ≤ 1048576) (hs : ∀ r ∈ rs, r.left.length ≤ 1048576 ∧ r.right.length ≤ 1048576) (hll : l.length ≤ 1048576) :
    Calls Try.prog 144 #[.agg #[.int .i64 k, .slice A rs.length c], .string ⟨l.toArray⟩] w fun e w' => e = .returned (.tuple #[.agg #[.int .i64 (M.FirstStep k rs l).1.rule, .int .i64 (M.FirstStep k rs l).1.place], .bool (M.FirstStep k rs l).2]) ∧ Below w.heap.size w w' := by
  unfold M.FirstStep
  have h1 := Lib.hid (fun W hA => spec_StepsOf_c k A c rs l W hA hl hs hll)
  have HA := Lib.hid hA
  have HP := Lib.hid (fun (o p : Obj) => ((Below.refl w.heap.size w).alloc (Nat.le_refl _) o).alloc (by simp) p)
  clear hA hs
  generalize M.StepsOf k rs l = zs at *
  go_enter Try.func144, Try.ntmps144
  go_wp2_with fail
  refine (h1.out _ (HA.out.below (HP.out _ _))).mono ?_
  rintro e w1 ⟨A1, c1, rfl, ho, hb⟩
  have d10 : w1.cell? ⟨w.heap.size + 1, 0, none⟩ = some (.int .i64 0) := cellKeep hb (by simp [go_sem])
  have d11 : w1.cell? ⟨w.heap.size + 1, 1, none⟩ = some (.int .i64 0) := cellKeep hb (by simp [go_sem])
  have f10 : w1.frozen? ⟨w.heap.size + 1, 0, none⟩ = false := ((bcell hb).2 _ _ (by simp)).trans (by simp [go_sem])
  have f11 : w1.frozen? ⟨w.heap.size + 1, 1, none⟩ = false := ((bcell hb).2 _ _ (by simp)).trans (by simp [go_sem])
  have s1 : w.heap.size + 2 ≤ w1.heap.size := by have := hb.size; simp at this; omega
  have HB := Lib.hid (below_alloc2 hb)
  have HO := Lib.hid ho
  clear hb ho
  cases zs with
  | nil =>
    go_wp2_with fail
    refine bodyPost_ret (v := .tuple #[.agg #[.int .i64 0, .int .i64 0], .bool false]) ?_ rfl ⟨rfl, ?_⟩
    · simp [results, Try.results144, go_sem, cell_set_ne, cell_set_eq _ d10, cell_two d11]
    · exact (HB.out.setCell (by simp) _).setCell (by simp) _
  | cons z zs =>
    obtain ⟨b, o, e1, hz, hc1, hc2⟩ := (HO.out.rd).stepAt (k := 0) (by simp)
    subst e1
    have hlen : (z :: zs).length = zs.length + 1 := rfl
    obtain ⟨n, hn⟩ : ∃ n, n = (z :: zs).length := ⟨_, rfl⟩
    have hn1 : 1 ≤ n := by rw [hn]; simp
    have hn2 : ((n : Int) == 0) = false := by rw [beq_eq_false_iff_ne]; omega
    rw [← hn]
    simp only [Nat.zero_mul, Nat.add_zero, List.getElem_cons_zero] at hc1 hc2
    clear hlen hn hz
    obtain ⟨zr, zp⟩ := z
    simp only at hc1 hc2
    go_wp2_with fail
    refine bodyPost_ret (v := .tuple #[.agg #[.int .i64 zr, .int .i64 zp], .bool true]) ?_ rfl ⟨rfl, ?_⟩
    · simp [results, Try.results144, go_sem, cell_set_ne, cell_set_eq _ d10, cell_two d11]
    · exact (HB.out.setCell (by simp) _).setCell (by simp) _
set_option maxRecDepth 100000 in
set_option maxHeartbeats 4000000 in
theorem firstStep_c (k : Int) (A : Option Addr) (c : Nat) (rs : List M.Rule) (l : List UInt8) (w : World) (hA : Rd w 2 A rs.length (ruls rs)) (hl : rs.length ≤ 1048576) (hs : ∀ r ∈ rs, r.left.length ≤ 1048576 ∧ r.right.length ≤ 1048576) (hll : l.length ≤ 1048576) :
    Calls Try.prog 149 #[.agg #[.int .i64 k, .slice A rs.length c], .string ⟨l.toArray⟩] w fun e w' => e = .returned (.tuple #[.agg #[.int .i64 (M.first (M.stepsTo rs l l.length)).1.rule, .int .i64 (M.first (M.stepsTo rs l l.length)).1.place], .bool (M.first (M.stepsTo rs l l.length)).2]) ∧ Below w.heap.size w w' := by
  have HA := Lib.hid hA
  have HS := Lib.hid hs
  obtain ⟨zs, hzs⟩ : ∃ zs, zs = M.first (M.stepsTo rs l l.length) := ⟨_, rfl⟩
  rw [← hzs]
  obtain ⟨⟨zr, zp⟩, zb⟩ := zs
  have HZ := Lib.hid hzs
  clear hzs hA hs
  simp only
  obtain ⟨m, hm⟩ : ∃ m, m = rs.length := ⟨_, rfl⟩
  have HM := Lib.hid hm
  have hmb : m ≤ 1048576 := by omega
  rw [← hm] at HA ⊢
  clear hm
  go_enter Try.func149, Try.ntmps149
  go_wp2_with fail
  obtain ⟨w1, hw1⟩ : ∃ w1 : World, w1 = (w.alloc (.cells #[.int .i64 k, .slice A m c] 28)).alloc (.cells #[.int .i64 0, .int .i64 0] 129) := ⟨_, rfl⟩
  have HW := Lib.hid (show w1.heap.size = w.heap.size + 2 by rw [hw1]; simp)
  have D1 := Lib.hid (show w1.cell? ⟨w.heap.size, 1, none⟩ = some (.slice A m c) by rw [hw1]; simp [go_sem])
  have R0 := Lib.hid (show w1.cell? ⟨w.heap.size + 1, 0, none⟩ = some (.int .i64 0) by rw [hw1]; simp [go_sem])
  have R1 := Lib.hid (show w1.cell? ⟨w.heap.size + 1, 1, none⟩ = some (.int .i64 0) by rw [hw1]; simp [go_sem])
  have F0 := Lib.hid (show w1.frozen? ⟨w.heap.size + 1, 0, none⟩ = false by rw [hw1]; simp [go_sem])
  have F1 := Lib.hid (show w1.frozen? ⟨w.heap.size + 1, 1, none⟩ = false by rw [hw1]; simp [go_sem])
  have HB0 := Lib.hid (show Below w.heap.size w w1 by rw [hw1]; exact ((Below.refl w.heap.size w).alloc (Nat.le_refl _) _).alloc (by simp) _)
  have HA1 := Lib.hid (HA.out.below HB0.out)
  rw [← hw1]
  clear hw1
  go_loopw [6, 11] (fun _ z wr => ∃ i : Nat, i ≤ l.length ∧ z = .int .i64 i ∧ M.stepsTo rs l i = [] ∧ Below w1.heap.size w1 wr) (fun _ z _ => l.length - (intOf z).toNat)
  case atStart => exact ⟨0, by omega, rfl, rfl, Below.refl _ _⟩
  case round =>
    obtain ⟨i, hi, rfl, hi0, hb⟩ := hrel
    have e1 := cellKeep hb D1.out
    have HI := Lib.hid hi0
    have HB := Lib.hid hb
    by_cases hlt : i < l.length
    case neg =>
      obtain rfl : i = l.length := by omega
      have HE := Lib.hid (show zr = 0 ∧ zp = 0 ∧ zb = false by have h1 := HZ.out; rw [HI.out] at h1; simpa [M.first, and_assoc] using h1)
      have d10 := cellKeep hb R0.out
      have d11 := cellKeep hb R1.out
      have f10 := frozenKeep hb R0.out F0.out
      have f11 := frozenKeep hb R1.out F1.out
      clear hi0 hb
      go_wp2_with fail
      refine bodyPost_ret (v := .tuple #[.agg #[.int .i64 0, .int .i64 0], .bool false]) ?_ rfl ⟨by obtain ⟨h1, h2, h3⟩ := HE.out; rw [h1, h2, h3], ?_⟩
      · simp [results, Try.results149, go_sem, cell_set_ne, cell_set_eq _ d10, cell_two d11]
      · exact ((HB0.out.trans (HB.out.mono HB0.out.size)).setCell (by simp) _).setCell (by simp) _
    case pos =>
    have hil : i < l.length := hlt
    clear hi0 hb
    obtain ⟨wo, hwo⟩ : ∃ wo : World, wo = wr := ⟨_, rfl⟩
    rw [← hwo] at HB e1 ⊢
    clear hwo
    go_wp2_with fail
    go_loopw [7, 8, 17] (fun _ _ z wr => ∃ j : Nat, j ≤ m ∧ z = .int .i64 j ∧ M.stepsRow rs l i j = [] ∧ Below w1.heap.size w1 wr) (fun _ _ z _ => m - (intOf z).toNat)
    case atStart => exact ⟨0, by omega, rfl, rfl, by first | exact HB.out | exact HB.out.drew⟩
    case round =>
      clear e1 HB
      obtain ⟨j, hj, rfl, hj0, hb⟩ := hrel
      have e1 := cellKeep hb D1.out
      have HB := Lib.hid hb
      have HJ := Lib.hid hj0
      by_cases hjm : j < m
      case neg =>
        obtain rfl : j = m := by omega
        clear hj0 hb
        go_wp2
        go_roundw
        case rel => exact ⟨i + 1, by omega, by go_num, by rw [M.stepsTo, HI.out, ← HM.out, HJ.out]; rfl, HB.out⟩
        case measure => simp [intOf] <;> omega
      case pos =>
      obtain ⟨b, o, rfl, hz, hc1, hc2⟩ := (HA1.out.below HB.out).ruleAt (k := j) hjm
      have hsz := (HS.out rs[j] (List.getElem_mem hz)).1
      have HIT := Lib.hid (M.hit_at (rs := rs) (l := l) (p := i) hz)
      generalize rs[j] = r at *
      obtain ⟨rl, rr⟩ := r
      simp only at hc1 hc2 hsz HIT
      have HC := Lib.hid (fun W => HasPrefix_c (l.drop i) rl W (by simp; omega) hsz)
      obtain ⟨v, hv⟩ : ∃ v, v = M.pre rl (l.drop i) := ⟨_, rfl⟩
      rw [← hv] at HC HIT
      clear hv
      cases v
      case true =>
        have HE := Lib.hid (show (⟨zr, zp⟩, zb) = ((⟨j, i⟩, true) : M.Step × Bool) from by rw [HZ.out]; exact M.first_hit hil HI.out HJ.out HIT.out)
        have hs1 : w.heap.size + 2 ≤ wr.heap.size := by have h1 := HB.out.size; have h2 := HW.out; omega
        have d10 := cellKeep hb R0.out
        have d11 := cellKeep hb R1.out
        have f10 := frozenKeep hb R0.out F0.out
        have f11 := frozenKeep hb R1.out F1.out
        have p10 := allocKeep1 d10
        have p11 := allocKeep1 d11
        have q10 := fun o n => (show ((wr.alloc o).drewN n).cell? ⟨w.heap.size + 1, 0, none⟩ = some (.int .i64 0) from p10 o)
        have q11 := fun o n => (show ((wr.alloc o).drewN n).cell? ⟨w.heap.size + 1, 1, none⟩ = some (.int .i64 0) from p11 o)
        have g10 := fun o => frozenKeep ((Below.refl _ _).alloc (Nat.le_refl _) o) d10 f10
        have g11 := fun o => frozenKeep ((Below.refl _ _).alloc (Nat.le_refl _) o) d11 f11
        have HB5 := Lib.hid (fun o => (HB0.out.trans (HB.out.mono HB0.out.size)).alloc (Nat.le_trans HB0.out.size HB.out.size) o)
        clear hj0 hb
        go_wp2_with fail
        go_quiet ((go_at_call 175; exact Calls.quiet_of_same (quiet1 (HC.out _))))
        go_wp2_with fail
        refine bodyPost_ret (v := .tuple #[.agg #[.int .i64 j, .int .i64 i], .bool true]) ?_ rfl ⟨by have h1 := HE.out; injection h1 with h1 h2; injection h1 with h1 h3; rw [h1, h2, h3], ?_⟩
        · simp [results, Try.results149, go_sem, cell_set_ne, cell_set_eq _ (q10 _ _), cell_two (q11 _ _)]
        · exact ((below_drewN (HB5.out _) _).setCell (by simp) _).setCell (by simp) _
      case false =>
        have HY := Lib.hid (M.row_no HIT.out)
        clear hj0 hb
        go_wp2_with fail
        go_quiet ((go_at_call 175; exact Calls.quiet_of_same (quiet1 (HC.out _))))
        go_wp2_with fail
        go_roundw
        case rel => exact ⟨j + 1, by omega, by go_num, by rw [HY.out]; exact HJ.out, HB.out.trans ((show Below wr.heap.size wr _ from (by repeat (first | exact Below.refl _ _ | refine Below.alloc ?_ (by simp <;> omega) _ | refine below_drewN ?_ _ | refine Below.drew ?_))).mono HB.out.size)⟩
        case measure => simp [intOf] <;> omega

end Go.Proofs.Ytlohpphmamapeaa
/-
  Contracts of ApplyStep.
  Conditions: at most 2^20 rules, words of at most 2^20 bytes.
-/
namespace Go.Proofs.Ytlohpphmamapeaa
open Go.RowKit
set_option linter.unusedVariables false

/-- Whether a step is in a list. -/
def M.stepIn (x : M.Step) (zs : List M.Step) : Bool := zs.any fun y => decide (x.rule = y.rule ∧ x.place = y.place)
def M.replaced (rs : List M.Rule) (l : List UInt8) (x : M.Step) : List UInt8 × Bool := match rs[x.rule.toNat]? with
  | some r => M.ReplaceAt l x.place r.left.length r.right
  | none => ([], false)
def M.ApplyStep (k : Int) (rs : List M.Rule) (l : List UInt8) (x : M.Step) : List UInt8 × Bool := if M.stepIn x (M.StepsOf k rs l) = true then M.replaced rs l x else ([], false)
theorem stepIn_drop {zs : List M.Step} {k : Nat} {x : M.Step} (h : k < zs.length) : M.stepIn x (zs.drop k) = (decide (x.rule = zs[k].rule ∧ x.place = zs[k].place) || M.stepIn x (zs.drop (k + 1))) := by
  unfold M.stepIn; rw [List.drop_eq_getElem_cons h, List.any_cons]
theorem stepIn_of {k : Int} {rs : List M.Rule} {l : List UInt8} {x : M.Step} (h : M.stepIn x (M.StepsOf k rs l) = true) : ∃ i p : Nat, i < rs.length ∧ p < l.length ∧ x = ⟨i, p⟩ := by
  unfold M.stepIn at h
  obtain ⟨y, hy, he⟩ := List.any_eq_true.1 h
  have he := of_decide_eq_true he
  have e : x = y := step_ext he
  subst e
  unfold M.StepsOf at hy
  split at hy
  · obtain ⟨p, i, hp, hi, _, rfl⟩ := M.to_mem hy
    exact ⟨i, p, hi, hp, rfl⟩
  · simp at hy
theorem apply_no {k : Int} {rs : List M.Rule} {l : List UInt8} {x : M.Step} (h : M.stepIn x (M.StepsOf k rs l) = false) : M.ApplyStep k rs l x = ([], false) := if_neg (by rw [h]; simp)
theorem apply_yes {k : Int} {rs : List M.Rule} {l : List UInt8} {x : M.Step} (h : M.stepIn x (M.StepsOf k rs l) = true) : M.ApplyStep k rs l x = M.replaced rs l x := if_pos h
theorem replaced_at {rs : List M.Rule} {l : List UInt8} {i : Nat} {p : Int} (h : i < rs.length) : M.replaced rs l ⟨i, p⟩ = M.ReplaceAt l p rs[i].left.length rs[i].right := by simp [M.replaced, h]
set_option maxRecDepth 100000 in
set_option maxHeartbeats 2000000 in
theorem apply_c (k : Int) (A : Option Addr) (c : Nat) (rs : List M.Rule) (l : List UInt8) (i : Nat) (p : Int) (w : World) (hA : Rd w 2 A rs.length (ruls rs)) (hi : i < rs.length) (hl : rs.length ≤ 1048576) (hs : ∀ r ∈ rs, r.left.length ≤ 1048576 ∧ r.right.length ≤ 1048576) (hll : l.length ≤ 1048576) :
    Calls Try.prog 105 #[.agg #[.int .i64 k, .slice A rs.length c], .string ⟨l.toArray⟩, .agg #[.int .i64 i, .int .i64 p]] w fun e w' => e = .returned (.tuple #[.string ⟨(M.ReplaceAt l p rs[i].left.length rs[i].right).1.toArray⟩, .bool (M.ReplaceAt l p rs[i].left.length rs[i].right).2]) ∧ Below w.heap.size w w' := by
  have HP := Lib.hid (fun (o p : Obj) => ((Below.refl w.heap.size w).alloc (Nat.le_refl _) o).alloc (by simp) p)
  obtain ⟨b, o, rfl, hz, hc1, hc2⟩ := hA.ruleAt (k := i) hi
  have k1 := fun (x y : Obj) => allocKeep2 hc1 x y
  have k2 := fun (x y : Obj) => allocKeep2 hc2 x y
  have hsz := hs rs[i] (List.getElem_mem hi)
  have h1 := Lib.hid (fun W => toBelow2 (impl_ReplaceAt_c l p rs[i].left.length rs[i].right W hll hsz.2))
  clear hs hA hc1 hc2
  obtain ⟨m, hm⟩ : ∃ m, m = rs.length := ⟨_, rfl⟩
  have him : i < m := by omega
  have hmb : m ≤ 1048576 := by omega
  rw [← hm]
  clear hm
  generalize rs[i] = r at *
  obtain ⟨rl, rr⟩ := r
  simp only at h1 k1 k2 hsz ⊢
  obtain ⟨hsz, _⟩ := hsz
  generalize M.ReplaceAt l p rl.length rr = z at *
  obtain ⟨zs, zb⟩ := z
  simp only at h1 ⊢
  go_enter Try.func105, Try.ntmps105
  go_wp2_with fail
  refine (h1.out _).mono ?_
  rintro e w1 ⟨rfl, hb⟩
  go_wp2_with fail
  go_ret2
  exact ⟨rfl, below_then (below_then (HP.out _ _) ((Below.refl _ _).alloc (Nat.le_refl _) _)) hb⟩
set_option maxRecDepth 100000 in
set_option maxHeartbeats 4000000 in
theorem spec_ApplyStep_c (k : Int) (A : Option Addr) (c : Nat) (rs : List M.Rule) (l : List UInt8) (x : M.Step) (w : World) (hA : Rd w 2 A rs.length (ruls rs)) (hl : rs.length ≤ 1048576) (hs : ∀ r ∈ rs, r.left.length ≤ 1048576 ∧ r.right.length ≤ 1048576) (hll : l.length ≤ 1048576) :
    Calls Try.prog 145 #[.agg #[.int .i64 k, .slice A rs.length c], .string ⟨l.toArray⟩, .agg #[.int .i64 x.rule, .int .i64 x.place]] w fun e w' => e = .returned (.tuple #[.string ⟨(M.ApplyStep k rs l x).1.toArray⟩, .bool (M.ApplyStep k rs l x).2]) ∧ Below w.heap.size w w' := by
  have h1 := Lib.hid (fun W hA => spec_StepsOf_c k A c rs l W hA hl hs hll)
  have HA := Lib.hid hA
  have HS := Lib.hid hs
  have HP := Lib.hid (fun (o p : Obj) => ((Below.refl w.heap.size w).alloc (Nat.le_refl _) o).alloc (by simp) p)
  have hzl := stepsOf_len (k := k) (rs := rs) hll
  obtain ⟨q, hq⟩ : ∃ q, q = M.stepIn x (M.StepsOf k rs l) := ⟨_, rfl⟩
  have HQ := Lib.hid hq
  have HR := Lib.hid (fun (h : q = true) => stepIn_of (k := k) (rs := rs) (l := l) (x := x) (hq.symm.trans h))
  have HNO := Lib.hid (fun (h : q = false) => apply_no (k := k) (rs := rs) (l := l) (x := x) (hq.symm.trans h))
  have HYES := Lib.hid (fun (h : q = true) => apply_yes (k := k) (rs := rs) (l := l) (x := x) (hq.symm.trans h))
  generalize M.ApplyStep k rs l x = res at *
  generalize M.StepsOf k rs l = zs at *
  obtain ⟨xr, xp⟩ := x
  simp only at HQ HR HNO HYES ⊢
  obtain ⟨n, hn⟩ : ∃ n, n = zs.length := ⟨_, rfl⟩
  have HN := Lib.hid hn
  have hnb : n ≤ 13000000 := by omega
  clear hA hs hq hzl
  rw [← hn] at h1
  clear hn
  obtain ⟨rw_, rb⟩ := res
  simp only at HNO HYES ⊢
  go_enter Try.func145, Try.ntmps145
  go_wp2_with fail
  refine (h1.out _ (HA.out.below (HP.out _ _))).mono ?_
  rintro e w1 ⟨A1, c1, rfl, ho, hb⟩
  have s0 : w1.cell? ⟨w.heap.size, 0, none⟩ = some (.int .i64 k) := cellKeep hb (by simp [go_sem])
  have s1 : w1.cell? ⟨w.heap.size, 1, none⟩ = some (.slice A rs.length c) := cellKeep hb (by simp [go_sem])
  have s2 : w1.cell? ⟨w.heap.size + 1, 0, none⟩ = some (.int .i64 xr) := cellKeep hb (by simp [go_sem])
  have s3 : w1.cell? ⟨w.heap.size + 1, 1, none⟩ = some (.int .i64 xp) := cellKeep hb (by simp [go_sem])
  have S1 := Lib.hid s1
  have S2 := Lib.hid s2
  have S3 := Lib.hid s3
  have HB0 := Lib.hid (below_alloc2 hb)
  have HO := Lib.hid ho.rd
  have HA1 := Lib.hid (HA.out.below HB0.out)
  clear hb ho
  go_wp2_with fail
  go_loopw [15] (fun z wr => ∃ (j : Nat), j ≤ n ∧ z = .int .i64 j ∧ M.stepIn ⟨xr, xp⟩ (zs.drop j) = q ∧ Below w1.heap.size w1 wr) (fun z _ => n - (intOf z).toNat)
  case atStart => exact ⟨0, by omega, rfl, by rw [List.drop_zero, HQ.out], Below.refl _ _⟩
  case round =>
    clear s0 s1 s2 s3
    obtain ⟨j, hj, rfl, hf, hb⟩ := hrel
    have HB := Lib.hid hb
    have HF := Lib.hid hf
    have s1 := cellKeep hb S1.out
    have s2 := cellKeep hb S2.out
    have s3 := cellKeep hb S3.out
    have t1 := allocKeep1 s1
    have t2 := allocKeep1 s2
    have t3 := allocKeep1 s3
    have v3 := allocKeep2 s3
    by_cases hlt : j < n
    case neg =>
      have e : q = false := by rw [List.drop_eq_nil_of_le (by have := HN.out; omega)] at hf; exact hf.symm
      have HE := Lib.hid (HNO.out e)
      clear hb hf t1 t2 t3 v3
      go_wp2
      go_ret2
      exact ⟨by have h := HE.out; injection h with h1 h2; rw [h1, h2]; rfl, HB0.out.trans (HB.out.mono HB0.out.size)⟩
    case pos =>
    obtain ⟨b, o, rfl, hz, hc1, hc2⟩ := (HO.out.below hb).stepAt (k := j) hlt
    have HF2 := Lib.hid ((stepIn_drop (x := ⟨xr, xp⟩) hz).symm.trans hf)
    generalize zs[j] = y at *
    obtain ⟨yr, yp⟩ := y
    simp only at hc1 hc2 HF2
    clear hb hf
    by_cases hel : xr = yr
    case neg =>
      have hel' : (xr == yr) = false := by simpa using hel
      have HF3 := Lib.hid (show M.stepIn ⟨xr, xp⟩ (zs.drop (j + 1)) = q by rw [← HF2.out, decide_eq_false (fun h => hel h.1)]; rfl)
      clear hel
      go_wp2_with fail
      go_roundw
      case rel => exact ⟨j + 1, by omega, by go_num, HF3.out, HB.out.alloc HB.out.size _⟩
      case measure => simp [intOf] <;> omega
    case pos =>
    by_cases her : xp = yp
    case neg =>
      have her' : (xp == yp) = false := by simpa using her
      have HF3 := Lib.hid (show M.stepIn ⟨xr, xp⟩ (zs.drop (j + 1)) = q by rw [← HF2.out, decide_eq_false (fun h => her h.2)]; rfl)
      subst hel
      clear her
      go_wp2_with fail
      go_roundw
      case rel => exact ⟨j + 1, by omega, by go_num, HF3.out, HB.out.alloc HB.out.size _⟩
      case measure => simp [intOf] <;> omega
    case pos =>
      have hqt : q = true := by rw [← HF2.out, decide_eq_true ⟨hel, her⟩]; rfl
      obtain ⟨i, p, hi, hp, he⟩ := HR.out hqt
      injection he with he1 he2
      subst he1
      subst he2
      have HE := Lib.hid ((HYES.out hqt).trans (replaced_at hi))
      subst hel
      subst her
      obtain ⟨b2, o2, e2, hz2, hr1, hr2⟩ := (HA1.out.below HB.out).ruleAt (k := i) hi
      subst e2
      have u1 := allocKeep1 hr1
      have u2 := allocKeep1 hr2
      have hsz := HS.out rs[i] (List.getElem_mem hi)
      have h4 := Lib.hid (fun W => toBelow2 (spec_ReplaceAt_c l p rs[i].left.length rs[i].right W hll hsz.2))
      obtain ⟨m, hm⟩ : ∃ m, m = rs.length := ⟨_, rfl⟩
      rw [← hm] at t1 s1
      have him : i < m := by omega
      have hmb : m ≤ 1048576 := by omega
      clear hqt hm
      generalize rs[i] = r at *
      obtain ⟨rl, rr⟩ := r
      simp only at hsz h4 HE u1 u2
      obtain ⟨hsz, _⟩ := hsz
      rw [← HE.out] at h4
      simp only at h4
      go_wp2_with fail
      refine (h4.out _).mono ?_
      rintro e w2 ⟨rfl, hb2⟩
      go_wp2_with fail
      go_ret2
      exact ⟨rfl, HB0.out.trans ((HB.out.trans ((below_then ((Below.refl wr.heap.size wr).alloc (Nat.le_refl _) _ |>.alloc (by simp) _) hb2).mono HB.out.size)).mono HB0.out.size)⟩

end Go.Proofs.Ytlohpphmamapeaa
