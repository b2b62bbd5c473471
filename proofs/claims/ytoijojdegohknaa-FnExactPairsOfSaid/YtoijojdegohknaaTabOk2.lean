/-
  Contracts of the reference's TableOk.
  Conditions: at most 2^20 entries.
-/
import Derived.Test.YtoijojdegohknaaTabOk
namespace Go.Proofs.Ytoijojdegohknaa
open Go.RowKit
set_option linter.unusedVariables false

theorem inP_drop {n : Nat} {xs : List Int} {k : Nat} (hk : k < xs.length) (h : M.InP n (xs.take k)) (hx : 0 ≤ xs[k] ∧ xs[k] ≤ (n : Int) - 1) : M.InP n (xs.take (k + 1)) := by
  rw [List.take_succ_eq_append_getElem hk]
  intro x hm
  rcases List.mem_append.1 hm with hm | hm
  · exact h x hm
  · simp at hm; subst hm; exact hx

end Go.Proofs.Ytoijojdegohknaa
