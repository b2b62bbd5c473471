/-
  The cell of internal/bytealg.MaxLen at a row's own world: it holds some int.
  Conditions: none; this text names no law.
-/
import Derived.Test.YtkbogjoodamcfaaShelf
namespace Go.Proofs.Ytkbogjoodamcfaa
open Go.RowKit

theorem maxLen_of (W : World) (h : W.ShapedOpen Try.prog) : ∃ m : Int, W.cell? ⟨0, 0, none⟩ = some (.int .i64 m) := Try.laysM145.s1_3 W h

end Go.Proofs.Ytkbogjoodamcfaa
