/-
  Contracts of the functions on words: each call returns what the plain function of the same name gives.
  Conditions: lengths of at most 2^20.
-/
import Derived.Test.YtkbogjoodamcfaaBase
import Derived.Test.YtkbogjoodamcfaaModel
namespace Go.Proofs.Ytkbogjoodamcfaa
open Go.RowKit
set_option linter.unusedVariables false

set_option maxHeartbeats 400000 in
theorem within_c (n lo hi : Int) (w : World) : Calls Try.prog 22 #[.int .i64 n, .int .i64 lo, .int .i64 hi] w fun e w' => e = .returned (.bool (M.within n lo hi)) ∧ w = w' := by
  unfold M.within
  by_cases h1 : lo ≤ n <;> by_cases h2 : n ≤ hi
  all_goals
    go_enter Try.func22, Try.ntmps22
    go_wp2
    go_ret
    exact ⟨by simp [*], rfl⟩
set_option maxHeartbeats 400000 in
theorem l01In_c (n lo hi : Int) (w : World) : Calls Try.prog 44 #[.int .i64 n, .int .i64 lo, .int .i64 hi] w fun e w' => e = .returned (.bool (M.within n lo hi)) ∧ w = w' := by
  unfold M.within
  by_cases h1 : lo ≤ n <;> by_cases h2 : n ≤ hi
  all_goals
    go_enter Try.func44, Try.ntmps44
    go_wp2
    go_ret
    exact ⟨by simp [*], rfl⟩





end Go.Proofs.Ytkbogjoodamcfaa
