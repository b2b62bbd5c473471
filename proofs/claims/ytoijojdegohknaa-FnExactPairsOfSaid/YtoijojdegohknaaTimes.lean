/-
  Contracts of the product of two elements, and of allWithin.
  Conditions: tables of at most 40 elements.
-/
import Derived.Test.YtoijojdegohknaaTab
import Derived.Test.YtoijojdegohknaaModTab
import Derived.Test.YtoijojdegohknaaWordC
namespace Go.Proofs.Ytoijojdegohknaa
open Go.RowKit
set_option linter.unusedVariables false

theorem tAt_cell {w : World} {A : Option Addr} {xs : List Int} (h : Rd w 1 A xs.length (ints xs)) {a : Nat} (ha : a < xs.length) : ∃ b o, A = some ⟨b, o, none⟩ ∧ w.cell? ⟨b, o + a, none⟩ = some (.int .i64 (M.tAt xs a)) := by
  obtain ⟨b, o, e, hz, hc⟩ := h.intAt (k := a) ha
  exact ⟨b, o, e, by rw [M.tAt_eq hz]; exact hc⟩

end Go.Proofs.Ytoijojdegohknaa
