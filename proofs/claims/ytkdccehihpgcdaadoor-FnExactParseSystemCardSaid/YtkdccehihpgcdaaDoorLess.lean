/-
  Contracts of IsLess and of what it calls.
  Conditions: lengths of at most 2^40.
-/
import Derived.Test.YtkdccehihpgcdaaDoorMem
namespace Go.Proofs.YtkdccehihpgcdaaDoor
open Go.RowKit
set_option linter.unusedVariables false


end Go.Proofs.YtkdccehihpgcdaaDoor
