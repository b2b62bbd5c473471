/-
  What the functions on tables compute, in plain words.
  Conditions: none; this text names no law.
-/
import Derived.Test.YtlohpphmamapeaaModel
namespace Go.Proofs.Ytlohpphmamapeaa.M
set_option linter.unusedVariables false

def tAt (xs : List Int) (i : Nat) : Int := xs.getD i 0
def tI (n : Nat) (xs : List Int) (x y : Int) : Int := tAt xs (x.toNat * n + y.toNat)
abbrev AssocP (n : Nat) (xs : List Int) (i j k : Nat) : Prop := tI n xs (tI n xs i j) k = tI n xs i (tI n xs j k)
abbrev UnitP (n : Nat) (xs : List Int) (i : Nat) : Prop := tAt xs i = (i : Int) ∧ tAt xs (i * n) = (i : Int)
abbrev RowP (n : Nat) (xs : List Int) (i : Nat) : Prop := UnitP n xs i ∧ ∀ j, j < n → ∀ k, k < n → AssocP n xs i j k
abbrev InP (n : Nat) (xs : List Int) : Prop := ∀ x ∈ xs, 0 ≤ x ∧ x ≤ (n : Int) - 1
abbrev TableP (n : Nat) (xs : List Int) : Prop := xs.length = n * n ∧ InP n xs ∧ ∀ i, i < n → RowP n xs i
abbrev TableQ (k : Int) (xs : List Int) : Prop := (1 ≤ k ∧ k ≤ 40) ∧ TableP k.toNat xs
def TableOk (k : Int) (xs : List Int) : Bool := decide (TableQ k xs)
theorem tableOk_no {k : Int} {xs : List Int} (h : ¬ TableQ k xs) : TableOk k xs = false := decide_eq_false h
theorem tableOk_yes {k : Int} {xs : List Int} (h : TableQ k xs) : TableOk k xs = true := decide_eq_true h
theorem tAt_eq {xs : List Int} {i : Nat} (h : i < xs.length) : tAt xs i = xs[i] := by simp [tAt, h]
theorem tAt_in {n : Nat} {xs : List Int} (h : InP n xs) {i : Nat} (hi : i < xs.length) : ∃ m : Nat, tAt xs i = (m : Int) ∧ m < n := by
  rw [tAt_eq hi]
  have := h xs[i] (List.getElem_mem hi)
  exact ⟨xs[i].toNat, by omega, by omega⟩
theorem idx_lt {n i j : Nat} (hi : i < n) (hj : j < n) : i * n + j < n * n := by
  have : (i + 1) * n ≤ n * n := Nat.mul_le_mul_right n hi
  rw [Nat.add_mul] at this
  omega
theorem sq_le {n : Nat} (h : n ≤ 40) : n * n ≤ 1600 := Nat.mul_le_mul h h

theorem tI_in {n : Nat} {xs : List Int} (h : InP n xs) (hl : xs.length = n * n) {x y : Int} (hx : 0 ≤ x ∧ x < n) (hy : 0 ≤ y ∧ y < n) : 0 ≤ tI n xs x y ∧ tI n xs x y < n := by
  have hlt : x.toNat * n + y.toNat < xs.length := by rw [hl]; exact idx_lt (by omega) (by omega)
  have := h _ (List.getElem_mem hlt)
  unfold tI
  rw [tAt_eq hlt]
  omega
theorem rowsOk {n : Nat} {xs : List Int} (hn : 1 ≤ n ∧ n ≤ 40) (hl : xs.length = n * n) (hi : InP n xs) (h : ∀ i, i < n → RowP n xs i) : TableOk n xs = true :=
  tableOk_yes ⟨by omega, by simpa using hl, by simpa using hi, by simpa using h⟩
theorem noLen {k : Int} {xs : List Int} (h : ¬ xs.length = k.toNat * k.toNat) : TableOk k xs = false := tableOk_no fun q => h q.2.1
theorem noSize {k : Int} {xs : List Int} (h : ¬ (1 ≤ k ∧ k ≤ 40)) : TableOk k xs = false := tableOk_no fun q => h q.1
theorem noIn {n : Nat} {xs : List Int} (h : ¬ InP n xs) : TableOk n xs = false := tableOk_no fun q => h (by simpa using q.2.2.1)
theorem noRow {n : Nat} {xs : List Int} {i : Nat} (hi : i < n) (h : ¬ RowP n xs i) : TableOk n xs = false := tableOk_no fun q => h (by simpa using q.2.2.2 i (by simpa using hi))
theorem noUnit {n : Nat} {xs : List Int} {i : Nat} (hi : i < n) (h : ¬ UnitP n xs i) : TableOk n xs = false := noRow hi fun r => h r.1
theorem noAssoc {n : Nat} {xs : List Int} {i j k : Nat} (hi : i < n) (hj : j < n) (hk : k < n) (h : ¬ AssocP n xs i j k) : TableOk n xs = false := noRow hi fun r => h (r.2 j hj k hk)
def outOf (lo hi : Int) (x : Int) : Bool := !within x lo hi
theorem inP_iff {n : Nat} {xs : List Int} : xs.any (outOf 0 (n - 1)) = !decide (InP n xs) := by
  by_cases h : InP n xs
  · rw [decide_eq_true h, Bool.not_true, List.any_eq_false]
    intro x hx
    have := h x hx
    simp [outOf, within]
    omega
  · rw [decide_eq_false h, Bool.not_false, List.any_eq_true]
    have ⟨x, hx⟩ := Classical.not_forall.1 h
    obtain ⟨hm, hx⟩ := Classical.not_imp.1 hx
    refine ⟨x, hm, ?_⟩
    simp [outOf, within]
    omega

end Go.Proofs.Ytlohpphmamapeaa.M
