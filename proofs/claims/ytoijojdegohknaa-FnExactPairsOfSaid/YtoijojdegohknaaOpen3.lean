/-
  Arguments that are steps, opened.
  Conditions: none; this text names no law.
-/
import Derived.Test.YtoijojdegohknaaOpen2
import Derived.Test.YtoijojdegohknaaRecStep
namespace Go.Proofs.Ytoijojdegohknaa
open Go.ChangeShapes Go.WideShapes Go.ChangeAt Go.RowKit Go.Joins Go.Deep
set_option linter.unusedVariables false

section
variable {H : Type} {enc : TypeId × Value → H} {w : World} {b0 : Nat} {held : Bool} {spare : Nat → Bool} {v : Value} {d : DataW H} {p : List MemPlace}
set_option maxRecDepth 100000 in
theorem openStep (hv : Value.okWide Try.prog w .any b0 59 v) (h : DataW.Trod enc Try.prog w 0 spare held 59 v d p) :
    ∃ x : M.Step, v = .agg #[.int .i64 x.rule, .int .i64 x.place] ∧ True := by
  obtain ⟨c0, c1, y0, y1, m, rfl, rfl, rfl, hy0, hy1⟩ := open_agg2 Try.underlying59 (by kernel_rfl) Try.cellsLawStep hv h
  obtain ⟨l, rfl, hl⟩ := openOneInt hy0
  obtain ⟨r, rfl, hr⟩ := openOneInt hy1
  exact ⟨⟨l, r⟩, rfl, trivial⟩
end

end Go.Proofs.Ytoijojdegohknaa
