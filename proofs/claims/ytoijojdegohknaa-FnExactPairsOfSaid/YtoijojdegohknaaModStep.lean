/-
  What the functions on steps compute, in plain words.
  Conditions: none; this text names no law.
-/
import Derived.Test.YtoijojdegohknaaRecStep
import Derived.Test.YtoijojdegohknaaModRule
namespace Go.Proofs.Ytoijojdegohknaa.M
set_option linter.unusedVariables false

/-- Whether a rule's left side lies at a place. -/
def hit (rs : List Rule) (l : List UInt8) (p k : Nat) : Bool := match rs[k]? with
  | some r => pre r.left (l.drop p)
  | none => false
def stepsRow (rs : List Rule) (l : List UInt8) (p : Nat) : Nat → List Step
  | 0 => []
  | k + 1 => stepsRow rs l p k ++ (if hit rs l p k then [⟨k, p⟩] else [])
def stepsTo (rs : List Rule) (l : List UInt8) : Nat → List Step
  | 0 => []
  | p + 1 => stepsTo rs l p ++ stepsRow rs l p rs.length
def StepsOf (k : Int) (rs : List Rule) (l : List UInt8) : List Step := if RulesOk k rs then stepsTo rs l l.length else []
theorem hit_at {rs : List Rule} {l : List UInt8} {p k : Nat} (h : k < rs.length) : hit rs l p k = pre rs[k].left (l.drop p) := by simp [hit, h]
theorem row_yes {rs : List Rule} {l : List UInt8} {p k : Nat} (h : hit rs l p k = true) : stepsRow rs l p (k + 1) = stepsRow rs l p k ++ [⟨k, p⟩] := by simp [stepsRow, h]
theorem row_no {rs : List Rule} {l : List UInt8} {p k : Nat} (h : hit rs l p k = false) : stepsRow rs l p (k + 1) = stepsRow rs l p k := by simp [stepsRow, h]
theorem row_len (rs : List Rule) (l : List UInt8) (p : Nat) : ∀ k, (stepsRow rs l p k).length ≤ k
  | 0 => by simp [stepsRow]
  | k + 1 => by
    have := row_len rs l p k
    unfold stepsRow
    split <;> simp <;> omega
theorem to_len (rs : List Rule) (l : List UInt8) : ∀ p, (stepsTo rs l p).length ≤ p * rs.length
  | 0 => by simp [stepsTo]
  | p + 1 => by
    have := to_len rs l p
    have := row_len rs l p rs.length
    simp only [stepsTo, List.length_append, Nat.add_mul, Nat.one_mul]
    omega
theorem row_mem {rs : List Rule} {l : List UInt8} {p : Nat} {x : Step} : ∀ {k}, x ∈ stepsRow rs l p k → ∃ i : Nat, i < k ∧ hit rs l p i = true ∧ x = ⟨i, p⟩
  | 0, h => by simp [stepsRow] at h
  | k + 1, h => by
    unfold stepsRow at h
    rcases List.mem_append.1 h with h | h
    · obtain ⟨i, hi, r⟩ := row_mem h
      exact ⟨i, by omega, r⟩
    · split at h
      · rename_i hh
        simp at h
        exact ⟨k, by omega, hh, h⟩
      · simp at h
theorem to_mem {rs : List Rule} {l : List UInt8} {x : Step} : ∀ {n}, x ∈ stepsTo rs l n → ∃ p i : Nat, p < n ∧ i < rs.length ∧ hit rs l p i = true ∧ x = ⟨i, p⟩
  | 0, h => by simp [stepsTo] at h
  | p + 1, h => by
    unfold stepsTo at h
    rcases List.mem_append.1 h with h | h
    · obtain ⟨q, i, hq, r⟩ := to_mem h
      exact ⟨q, i, by omega, r⟩
    · obtain ⟨i, hi, r⟩ := row_mem h
      exact ⟨p, i, by omega, hi, r⟩
theorem hit_lt {rs : List Rule} {l : List UInt8} {p k : Nat} (h : hit rs l p k = true) : ∃ hk : k < rs.length, pre rs[k].left (l.drop p) = true := by
  by_cases hk : k < rs.length
  · exact ⟨hk, by rw [← hit_at hk]; exact h⟩
  · simp [hit, hk] at h
theorem row_pre (rs : List Rule) (l : List UInt8) (p : Nat) : ∀ {i k : Nat}, i ≤ k → ∃ t, stepsRow rs l p k = stepsRow rs l p i ++ t
  | i, 0, h => ⟨[], by rw [show i = 0 by omega]; simp⟩
  | i, k + 1, h => by
    by_cases he : i = k + 1
    · exact ⟨[], by subst he; simp⟩
    · obtain ⟨t, ht⟩ := row_pre rs l p (i := i) (k := k) (by omega)
      exact ⟨t ++ _, by rw [stepsRow, ht, List.append_assoc]⟩
theorem to_pre (rs : List Rule) (l : List UInt8) : ∀ {i n : Nat}, i ≤ n → ∃ t, stepsTo rs l n = stepsTo rs l i ++ t
  | i, 0, h => ⟨[], by rw [show i = 0 by omega]; simp⟩
  | i, n + 1, h => by
    by_cases he : i = n + 1
    · exact ⟨[], by subst he; simp⟩
    · obtain ⟨t, ht⟩ := to_pre rs l (i := i) (n := n) (by omega)
      exact ⟨t ++ _, by rw [stepsTo, ht, List.append_assoc]⟩

/-- The first step, and whether there is one. -/
def first (xs : List Step) : Step × Bool := match xs with
  | [] => (⟨0, 0⟩, false)
  | x :: _ => (x, true)
theorem first_hit {rs : List Rule} {l : List UInt8} {p k : Nat} (hp : p < l.length) (h0 : stepsTo rs l p = []) (h1 : stepsRow rs l p k = []) (hh : hit rs l p k = true) : first (stepsTo rs l l.length) = (⟨k, p⟩, true) := by
  obtain ⟨t, ht⟩ := to_pre rs l (i := p + 1) (n := l.length) (by omega)
  obtain ⟨hk, _⟩ := hit_lt hh
  obtain ⟨t', ht'⟩ := row_pre rs l p (i := k + 1) (k := rs.length) (by omega)
  rw [ht, stepsTo, h0, ht', row_yes hh, h1]
  rfl
/-- The last step that the reference keeps. -/
def lastStep : List Step → Step × Bool → Step × Bool
  | [], b => b
  | x :: xs, b => lastStep xs (if b.2 = false ∨ b.1.place < x.place then (x, true) else b)
def last (xs : List Step) : Step × Bool := lastStep xs (⟨0, 0⟩, false)
theorem lastStep_add (xs ys : List Step) (b : Step × Bool) : lastStep (xs ++ ys) b = lastStep ys (lastStep xs b) := by
  induction xs generalizing b with
  | nil => rfl
  | cons x xs ih => rw [List.cons_append, lastStep, lastStep, ih]
theorem lastStep_keep {xs : List Step} {b : Step × Bool} (hb : b.2 = true) (h : ∀ x ∈ xs, x.place ≤ b.1.place) : lastStep xs b = b := by
  induction xs with
  | nil => rfl
  | cons x xs ih =>
    have := h x (by simp)
    rw [lastStep, if_neg (by simp [hb]; omega)]
    exact ih fun y hy => h y (by simp [hy])
theorem lastStep_in {xs : List Step} {b : Step × Bool} {n : Int} (hb : b.2 = true → b.1.place < n) (h : ∀ x ∈ xs, x.place < n) : (lastStep xs b).2 = true → (lastStep xs b).1.place < n := by
  induction xs generalizing b with
  | nil => exact hb
  | cons x xs ih =>
    rw [lastStep]
    apply ih
    · have := h x (by simp)
      split
      · exact fun _ => this
      · exact hb
    · exact fun y hy => h y (by simp [hy])
theorem last_in {rs : List Rule} {l : List UInt8} {p : Nat} : (last (stepsTo rs l p)).2 = true → (last (stepsTo rs l p)).1.place < p := by
  apply lastStep_in
  · simp
  · intro x hx
    obtain ⟨q, i, hq, _, _, rfl⟩ := to_mem hx
    simp
    omega
theorem last_no {rs : List Rule} {l : List UInt8} {p : Nat} (h : stepsRow rs l p rs.length = []) : last (stepsTo rs l (p + 1)) = last (stepsTo rs l p) := by
  rw [stepsTo, h, List.append_nil]
theorem last_hit {rs : List Rule} {l : List UInt8} {p k : Nat} (h1 : stepsRow rs l p k = []) (hh : hit rs l p k = true) : last (stepsTo rs l (p + 1)) = (⟨k, p⟩, true) := by
  obtain ⟨hk, _⟩ := hit_lt hh
  obtain ⟨t, ht⟩ := row_pre rs l p (i := k + 1) (k := rs.length) (by omega)
  have hin := last_in (rs := rs) (l := l) (p := p)
  have hm : ∀ x ∈ t, x.place ≤ p := fun x hx => by
    have : x ∈ stepsRow rs l p rs.length := by rw [ht]; simp [hx]
    obtain ⟨i, _, _, rfl⟩ := row_mem this
    simp
  rw [stepsTo, last, lastStep_add, ht, row_yes hh, h1, List.nil_append, List.singleton_append, lastStep]
  rw [if_pos, lastStep_keep rfl hm]
  · revert hin
    unfold last
    generalize lastStep (stepsTo rs l p) (⟨0, 0⟩, false) = b
    intro hin
    cases hb : b.2
    · exact Or.inl rfl
    · exact Or.inr (by simpa using hin hb)
theorem row_nil_mono {rs : List Rule} {l : List UInt8} {p i k : Nat} (hik : i ≤ k) (h : stepsRow rs l p k = []) : stepsRow rs l p i = [] := by
  obtain ⟨t, ht⟩ := row_pre rs l p hik
  rw [h] at ht
  exact (List.append_eq_nil_iff.1 ht.symm).1

end Go.Proofs.Ytoijojdegohknaa.M
