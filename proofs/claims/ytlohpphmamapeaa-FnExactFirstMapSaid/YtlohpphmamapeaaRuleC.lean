/-
  Contracts of the functions on single rules: their text, their copy, their size.
  Conditions: lengths of at most 2^20.
-/
import Derived.Test.YtlohpphmamapeaaWordC
namespace Go.Proofs.Ytlohpphmamapeaa
open Go.RowKit
set_option linter.unusedVariables false

set_option maxRecDepth 100000 in
set_option maxHeartbeats 1000000 in
theorem l03Side_c (l : List UInt8) (w : World) : Calls Try.prog 212 #[.string ⟨l.toArray⟩] w fun e w' => e = .returned (.string ⟨(M.dotted l).toArray⟩) ∧ w = w' := by
  cases l with
  | nil =>
    go_enter Try.func212, Try.ntmps212
    go_wp2
    go_ret
    exact ⟨rfl, rfl⟩
  | cons a r =>
    go_enter Try.func212, Try.ntmps212
    go_wp2
    go_ret
    exact ⟨rfl, rfl⟩
set_option maxRecDepth 100000 in
set_option maxHeartbeats 1000000 in
theorem spec_FormatRule_c (l r : List UInt8) (w : World) (hl : l.length ≤ 1048576) (hr : r.length ≤ 1048576) : Calls Try.prog 196 #[.agg #[.string ⟨l.toArray⟩, .string ⟨r.toArray⟩]] w fun e w' => e = .returned (.string ⟨(M.FormatRule ⟨l, r⟩).toArray⟩) ∧ Below w.heap.size w w' := by
  unfold M.FormatRule
  have h1 := M.dotted_len l
  have h2 := M.dotted_len r
  go_enter Try.func196, Try.ntmps196
  go_wp2_with fail
  go_quiet ((go_at_call 212; exact Calls.quiet_of_same (quiet1 (l03Side_c _ _))))
  go_wp2_with fail
  go_ret
  exact ⟨rfl, below_drewN ((Below.refl _ _).alloc (Nat.le_refl _) _) _⟩
set_option maxRecDepth 100000 in
set_option maxHeartbeats 1000000 in
theorem toRule_c (l r : List UInt8) (w : World) : Calls Try.prog 108 #[.agg #[.string ⟨l.toArray⟩, .string ⟨r.toArray⟩]] w fun e w' => e = .returned (.agg #[.string ⟨l.toArray⟩, .string ⟨r.toArray⟩]) ∧ Below w.heap.size w w' := by
  go_enter Try.func108, Try.ntmps108
  go_wp2
  refine bodyPost_ret (v := .agg #[.string ⟨l.toArray⟩, .string ⟨r.toArray⟩]) (by simp [results, Try.results108, go_sem]) rfl ⟨rfl, ?_⟩
  repeat' (first | exact Below.refl _ _ | (refine Below.alloc ?_ (by simp <;> omega) _) | (refine Below.setCell ?_ (by simp <;> omega) _))
set_option maxRecDepth 100000 in
set_option maxHeartbeats 1000000 in
theorem szRule_c (l r : List UInt8) (n : Int) (w : World) (hl : l.length ≤ 9223372036854775807) (hr : r.length ≤ 9223372036854775807) (hn : n ≤ 1048576) (hn0 : 0 ≤ n) : Calls Try.prog 106 #[.agg #[.string ⟨l.toArray⟩, .string ⟨r.toArray⟩], .int .i64 n] w fun e w' => e = .returned (.int .i64 (M.szRule ⟨l, r⟩ n)) ∧ Below w.heap.size w w' := by
  by_cases h1 : n - l.length < 0
  · have e1 : M.szRule ⟨l, r⟩ n = -1 := by unfold M.szRule; rw [if_pos h1]
    rw [e1]
    go_enter Try.func106, Try.ntmps106
    go_wp2
    go_ret
    exact ⟨rfl, (Below.refl _ _).alloc (Nat.le_refl _) _⟩
  · by_cases h2 : n - l.length - r.length < 0
    · have e1 : M.szRule ⟨l, r⟩ n = -1 := by unfold M.szRule; rw [if_neg h1, if_pos h2]
      rw [e1]
      go_enter Try.func106, Try.ntmps106
      go_wp2
      go_ret
      exact ⟨rfl, (Below.refl _ _).alloc (Nat.le_refl _) _⟩
    · have e1 : M.szRule ⟨l, r⟩ n = n - l.length - r.length := by unfold M.szRule; rw [if_neg h1, if_neg h2]
      rw [e1]
      go_enter Try.func106, Try.ntmps106
      go_wp2
      go_ret
      exact ⟨rfl, (Below.refl _ _).alloc (Nat.le_refl _) _⟩

end Go.Proofs.Ytlohpphmamapeaa
