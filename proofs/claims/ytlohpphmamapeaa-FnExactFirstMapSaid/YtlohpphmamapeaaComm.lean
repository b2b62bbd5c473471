/-
  Contracts of IsCommutative.
  Conditions: at most 2^20 entries.
-/
import Derived.Test.YtlohpphmamapeaaTabOk2
namespace Go.Proofs.Ytlohpphmamapeaa
open Go.RowKit
set_option linter.unusedVariables false

abbrev M.CommP (n : Nat) (xs : List Int) : Prop := ∀ i, i < n → ∀ j, j < i → M.tI n xs (i : Nat) (j : Nat) = M.tI n xs (j : Nat) (i : Nat)
def M.IsCommutative (k : Int) (xs : List Int) : Bool := M.TableOk k xs && decide (M.CommP k.toNat xs)
theorem tableOk_of {k : Int} {xs : List Int} (h : M.TableOk k xs = true) : M.TableQ k xs := of_decide_eq_true h

end Go.Proofs.Ytlohpphmamapeaa
