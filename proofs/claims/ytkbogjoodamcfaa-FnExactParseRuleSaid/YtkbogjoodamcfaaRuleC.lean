/-
  Contracts of the functions on single rules: their text, their copy, their size.
  Conditions: lengths of at most 2^20.
-/
import Derived.Test.YtkbogjoodamcfaaWordC
namespace Go.Proofs.Ytkbogjoodamcfaa
open Go.RowKit
set_option linter.unusedVariables false

set_option maxRecDepth 100000 in
set_option maxHeartbeats 1000000 in
theorem dotted_c (l : List UInt8) (w : World) : Calls Try.prog 47 #[.string ⟨l.toArray⟩] w fun e w' => e = .returned (.string ⟨(M.dotted l).toArray⟩) ∧ w = w' := by
  cases l with
  | nil =>
    go_enter Try.func47, Try.ntmps47
    go_wp2
    go_ret
    exact ⟨rfl, rfl⟩
  | cons a r =>
    go_enter Try.func47, Try.ntmps47
    go_wp2
    go_ret
    exact ⟨rfl, rfl⟩
set_option maxRecDepth 100000 in
set_option maxHeartbeats 1000000 in
theorem l03Side_c (l : List UInt8) (w : World) : Calls Try.prog 45 #[.string ⟨l.toArray⟩] w fun e w' => e = .returned (.string ⟨(M.dotted l).toArray⟩) ∧ w = w' := by
  cases l with
  | nil =>
    go_enter Try.func45, Try.ntmps45
    go_wp2
    go_ret
    exact ⟨rfl, rfl⟩
  | cons a r =>
    go_enter Try.func45, Try.ntmps45
    go_wp2
    go_ret
    exact ⟨rfl, rfl⟩
set_option maxRecDepth 100000 in
set_option maxHeartbeats 1000000 in
theorem impl_FormatRule_c (l r : List UInt8) (w : World) (hl : l.length ≤ 1048576) (hr : r.length ≤ 1048576) : Calls Try.prog 31 #[.agg #[.string ⟨l.toArray⟩, .string ⟨r.toArray⟩]] w fun e w' => e = .returned (.string ⟨(M.FormatRule ⟨l, r⟩).toArray⟩) ∧ Below w.heap.size w w' := by
  unfold M.FormatRule
  have h1 := M.dotted_len l
  have h2 := M.dotted_len r
  go_enter Try.func31, Try.ntmps31
  go_wp2_with fail
  go_quiet ((go_at_call 47; exact Calls.quiet_of_same (quiet1 (dotted_c _ _))))
  go_wp2_with fail
  go_ret
  exact ⟨rfl, below_drewN ((Below.refl _ _).alloc (Nat.le_refl _) _) _⟩
set_option maxRecDepth 100000 in
set_option maxHeartbeats 1000000 in
theorem spec_FormatRule_c (l r : List UInt8) (w : World) (hl : l.length ≤ 1048576) (hr : r.length ≤ 1048576) : Calls Try.prog 28 #[.agg #[.string ⟨l.toArray⟩, .string ⟨r.toArray⟩]] w fun e w' => e = .returned (.string ⟨(M.FormatRule ⟨l, r⟩).toArray⟩) ∧ Below w.heap.size w w' := by
  unfold M.FormatRule
  have h1 := M.dotted_len l
  have h2 := M.dotted_len r
  go_enter Try.func28, Try.ntmps28
  go_wp2_with fail
  go_quiet ((go_at_call 45; exact Calls.quiet_of_same (quiet1 (l03Side_c _ _))))
  go_wp2_with fail
  go_ret
  exact ⟨rfl, below_drewN ((Below.refl _ _).alloc (Nat.le_refl _) _) _⟩

end Go.Proofs.Ytkbogjoodamcfaa
