/-
  Arguments that are steps, opened.
  Conditions: none; this text names no law.
-/
import Derived.Test.YtlohpphmamapeaaOpen2
import Derived.Test.YtlohpphmamapeaaRecStep
namespace Go.Proofs.Ytlohpphmamapeaa
open Go.ChangeShapes Go.WideShapes Go.ChangeAt Go.RowKit Go.Joins Go.Deep
set_option linter.unusedVariables false

section
variable {H : Type} {enc : TypeId × Value → H} {w : World} {b0 : Nat} {held : Bool} {spare : Nat → Bool} {v : Value} {d : DataW H} {p : List MemPlace}
end

end Go.Proofs.Ytlohpphmamapeaa
