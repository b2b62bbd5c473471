/-
  The cell of internal/bytealg.MaxLen at a row's own world: it holds some int.
  Conditions: none; this text names no law.
-/
import Derived.Test.YtkdccehihpgcdaaDoorShelf
namespace Go.Proofs.YtkdccehihpgcdaaDoor
open Go.RowKit

theorem maxLen_of (W : World) (h : W.ShapedOpen Tryd.prog) : ∃ m : Int, W.cell? ⟨2, 0, none⟩ = some (.int .i64 m) := Tryd.laysM145.s1_3 W h

end Go.Proofs.YtkdccehihpgcdaaDoor
