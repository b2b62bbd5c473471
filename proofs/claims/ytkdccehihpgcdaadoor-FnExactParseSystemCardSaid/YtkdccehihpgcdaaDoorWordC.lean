/-
  Contracts of the functions on words: each call returns what the plain function of the same name gives.
  Conditions: lengths of at most 2^20.
-/
import Derived.Test.YtkdccehihpgcdaaDoorBase
import Derived.Test.YtkdccehihpgcdaaDoorModel
namespace Go.Proofs.YtkdccehihpgcdaaDoor
open Go.RowKit
set_option linter.unusedVariables false

set_option maxHeartbeats 400000 in
theorem within_c (n lo hi : Int) (w : World) : Calls Tryd.prog 71 #[.int .i64 n, .int .i64 lo, .int .i64 hi] w fun e w' => e = .returned (.bool (M.within n lo hi)) ∧ w = w' := by
  unfold M.within
  by_cases h1 : lo ≤ n <;> by_cases h2 : n ≤ hi
  all_goals
    go_enter Tryd.func71, Tryd.ntmps71
    go_wp2
    go_ret
    exact ⟨by simp [*], rfl⟩
set_option maxHeartbeats 400000 in
theorem l01In_c (n lo hi : Int) (w : World) : Calls Tryd.prog 67 #[.int .i64 n, .int .i64 lo, .int .i64 hi] w fun e w' => e = .returned (.bool (M.within n lo hi)) ∧ w = w' := by
  unfold M.within
  by_cases h1 : lo ≤ n <;> by_cases h2 : n ≤ hi
  all_goals
    go_enter Tryd.func67, Tryd.ntmps67
    go_wp2
    go_ret
    exact ⟨by simp [*], rfl⟩

set_option maxHeartbeats 400000 in
theorem spec_IsDigits_c (l : List UInt8) (w : World) (hl : l.length ≤ 1048576) : Calls Tryd.prog 33 #[.string ⟨l.toArray⟩] w fun e w' => e = .returned (.bool (M.IsDigits l)) ∧ w = w' := by
  go_enter Tryd.func33, Tryd.ntmps33
  go_wp2
  go_loop [3] (fun i => ∃ k : Nat, k ≤ l.length ∧ (l.take k).all M.isDig = true ∧ i = .int .i64 k) (fun i => l.length - (intOf i).toNat)
  case atStart => exact ⟨0, by omega, by simp, rfl⟩
  case round =>
    obtain ⟨k, hk, ha, rfl⟩ := hrel
    have HA := Lib.hid ha
    clear ha
    by_cases hlt : k < l.length
    · by_cases h1 : (48 : Int) ≤ (l[k].toNat : Int)
      · by_cases h2 : (l[k].toNat : Int) ≤ 57
        · go_wp2
          go_round
          case rel => exact ⟨k + 1, by omega, by rw [M.all_take_succ _ _ _ hlt, HA.out]; simp [M.isDig, h1, h2], by go_num⟩
          case measure => simp [intOf]; omega
        · go_wp2
          go_ret
          exact ⟨ret_bool (by rw [M.IsDigits, M.all_false_of M.isDig l k hlt (by simp [M.isDig]; omega)]; simp), rfl⟩
      · go_wp2
        go_ret
        exact ⟨ret_bool (by rw [M.IsDigits, M.all_false_of M.isDig l k hlt (by simp [M.isDig]; omega)]; simp), rfl⟩
    · go_wp2
      go_ret
      exact ⟨ret_bool (by rw [M.IsDigits, M.all_of_take _ _ _ (by omega) HA.out]; cases l <;> simp), rfl⟩
set_option maxHeartbeats 400000 in
theorem impl_IsDigits_c (l : List UInt8) (w : World) (hl : l.length ≤ 1048576) : Calls Tryd.prog 42 #[.string ⟨l.toArray⟩] w fun e w' => e = .returned (.bool (M.IsDigits l)) ∧ w = w' := by
  go_enter Tryd.func42, Tryd.ntmps42
  go_wp2
  go_loop [3, 6] (fun _ i => ∃ k : Nat, k ≤ l.length ∧ (l.take k).all M.isDig = true ∧ i = .int .i64 k) (fun _ i => l.length - (intOf i).toNat)
  case atStart => exact ⟨0, by omega, by simp, rfl⟩
  case round =>
    obtain ⟨k, hk, ha, rfl⟩ := hrel
    have HA := Lib.hid ha
    clear ha
    by_cases hlt : k < l.length
    · by_cases h1 : (48 : Int) ≤ (l[k].toNat : Int)
      · by_cases h2 : (l[k].toNat : Int) ≤ 57
        · go_wp2
          go_round
          case rel => exact ⟨k + 1, by omega, by rw [M.all_take_succ _ _ _ hlt, HA.out]; simp [M.isDig, h1, h2], by go_num⟩
          case measure => simp [intOf]; omega
        · go_wp2
          go_ret
          exact ⟨ret_bool (by rw [M.IsDigits, M.all_false_of M.isDig l k hlt (by simp [M.isDig]; omega)]; simp), rfl⟩
      · go_wp2
        go_ret
        exact ⟨ret_bool (by rw [M.IsDigits, M.all_false_of M.isDig l k hlt (by simp [M.isDig]; omega)]; simp), rfl⟩
    · go_wp2
      go_ret
      exact ⟨ret_bool (by rw [M.IsDigits, M.all_of_take _ _ _ (by omega) HA.out]; cases l <;> simp), rfl⟩




end Go.Proofs.YtkdccehihpgcdaaDoor
