/-
  Contracts of the laws' own helpers on slices of integers and of strings: equal, marked, held, copied, measured.
  Conditions: at most 2^20 elements.
-/
import Derived.Test.YtoijojdegohknaaOwn
namespace Go.Proofs.Ytoijojdegohknaa
open Go.RowKit
set_option linter.unusedVariables false

theorem take_eq_succ {α : Type} {a b : List α} {k : Nat} (ha : k < a.length) (hb : k < b.length) (h : a.take k = b.take k) (hk : a[k] = b[k]) : a.take (k + 1) = b.take (k + 1) := by
  rw [List.take_succ_eq_append_getElem ha, List.take_succ_eq_append_getElem hb, h, hk]
theorem eq_of_takes {α : Type} {a b : List α} {k : Nat} (hl : a.length = b.length) (hk : a.length ≤ k) (h : a.take k = b.take k) : a = b := by
  rwa [List.take_of_length_le hk, List.take_of_length_le (by omega)] at h
theorem ne_at {α : Type} {a b : List α} {k : Nat} (ha : k < a.length) (hb : k < b.length) (h : a[k] ≠ b[k]) : a ≠ b := by
  intro e; subst e; exact h rfl



end Go.Proofs.Ytoijojdegohknaa
