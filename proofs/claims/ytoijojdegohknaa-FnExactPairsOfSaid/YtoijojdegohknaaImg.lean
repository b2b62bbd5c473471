/-
  Contracts of ImagesOk.
  Conditions: at most 2^20 entries.
-/
import Derived.Test.YtoijojdegohknaaTabOk2
namespace Go.Proofs.Ytoijojdegohknaa
open Go.RowKit
set_option linter.unusedVariables false

def M.ImagesOk (k : Int) (xs ys : List Int) : Bool := M.TableOk k xs && (M.within ys.length 1 4 && !ys.any (M.outOf 0 (k - 1)))
theorem size_of {k : Int} {xs : List Int} (h : M.TableOk k xs = true) : 1 ≤ k ∧ k ≤ 40 := (of_decide_eq_true h : M.TableQ k xs).1

end Go.Proofs.Ytoijojdegohknaa
