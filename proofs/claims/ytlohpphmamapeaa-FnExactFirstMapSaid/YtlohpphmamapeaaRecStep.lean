/-
  The laws' helpers on slices of Step: their cells; copied, compared, measured; openers.
  Conditions: at most 2^20 elements.
-/
import Derived.Test.YtlohpphmamapeaaEqC
import Derived.Test.YtlohpphmamapeaaCells
import Derived.Test.YtlohpphmamapeaaPart
import Derived.Test.YtlohpphmamapeaaOpen2
import Derived.Deep.RegionHeld3
namespace Go.Proofs.Ytlohpphmamapeaa
open Go.ChangeShapes Go.WideShapes Go.ChangeAt Go.RowKit Go.Joins Go.Deep
set_option linter.unusedVariables false

structure M.Step where
  rule : Int
  place : Int
theorem step_ext {x y : M.Step} (h : x.rule = y.rule ∧ x.place = y.place) : x = y := by cases x; cases y; simp_all
def stepCells (x : M.Step) : List Value := [.int .i64 x.rule, .int .i64 x.place]
def steps_ (xs : List M.Step) : List Value := xs.flatMap stepCells
theorem steps_len (xs : List M.Step) : (steps_ xs).length = xs.length * 2 := flat_len (f := stepCells) (s := 2) (fun _ => rfl) xs
theorem Rd.stepAt {w : World} {A : Option Addr} {n : Nat} {xs : List M.Step} (h : Rd w 2 A n (steps_ xs)) {k : Nat} (hk : k < n) :
    ∃ b o, A = some ⟨b, o, none⟩ ∧ ∃ hz : k < xs.length, w.cell? ⟨b, o + k * 2, none⟩ = some (.int .i64 xs[k].rule) ∧ w.cell? ⟨b, o + k * 2 + 1, none⟩ = some (.int .i64 xs[k].place) := by
  obtain ⟨b, o, e, hc⟩ := h.2 (by omega)
  have hl : k < xs.length := by have := h.1; rw [steps_len] at this; omega
  have hq := fun q hq => flat_at (f := stepCells) (s := 2) (fun _ => rfl) xs k q hl hq
  refine ⟨b, o, e, hl, ?_, ?_⟩
  · simpa using hc (k * 2) _ (hq 0 (by omega))
  · rw [Nat.add_assoc]; exact hc (k * 2 + 1) _ (hq 1 (by omega))

end Go.Proofs.Ytlohpphmamapeaa
