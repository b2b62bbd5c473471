/-
  Contracts of TableOk.
  Conditions: at most 2^20 entries.
-/
import Derived.Test.YtoijojdegohknaaTimes
import Derived.Deep.RegionHeld3
namespace Go.Proofs.Ytoijojdegohknaa
open Go.RowKit
set_option linter.unusedVariables false

theorem held2 {a w w1 : World} {b1 o1 b2 o2 : Nat} {u1 u2 : Value} (h : w.cell? ⟨b1, o1, none⟩ = some u1 ∧ w.cell? ⟨b2, o2, none⟩ = some u2 ∧ Below a.heap.size a w) (hb : Below w.heap.size w w1) :
    w1.cell? ⟨b1, o1, none⟩ = some u1 ∧ w1.cell? ⟨b2, o2, none⟩ = some u2 ∧ Below a.heap.size a w1 := ⟨cellKeep hb h.1, cellKeep hb h.2.1, below_then h.2.2 hb⟩
theorem held2_below {a w : World} {p1 p2 : Prop} (h : p1 ∧ p2 ∧ Below a.heap.size a w) : Below a.heap.size a w := h.2.2
theorem held2_of {a w : World} {b1 o1 b2 o2 : Nat} {u1 u2 : Value} (h1 : a.cell? ⟨b1, o1, none⟩ = some u1) (h2 : a.cell? ⟨b2, o2, none⟩ = some u2) (h : Below a.heap.size a w) : w.cell? ⟨b1, o1, none⟩ = some u1 ∧ w.cell? ⟨b2, o2, none⟩ = some u2 ∧ Below a.heap.size a w := ⟨cellKeep h h1, cellKeep h h2, h⟩
theorem within_size {k : Int} (h : ¬ (1 ≤ k ∧ k ≤ 40)) : M.within k 1 40 = false := by unfold M.within; simp; omega
theorem within_size' {k : Int} (h : 1 ≤ k ∧ k ≤ 40) : M.within k 1 40 = true := by unfold M.within; simp; omega
theorem tI_zero {n : Nat} {xs : List Int} (i : Nat) : M.tI n xs 0 i = M.tAt xs i := by unfold M.tI; simp
theorem tI_row {n : Nat} {xs : List Int} (i : Nat) : M.tI n xs i 0 = M.tAt xs (i * n) := by unfold M.tI; simp


end Go.Proofs.Ytoijojdegohknaa
