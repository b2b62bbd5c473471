/-
  Contracts of the functions on words: each call returns what the plain function of the same name gives.
  Conditions: lengths of at most 2^20.
-/
import Derived.Test.YtlohpphmamapeaaBase
import Derived.Test.YtlohpphmamapeaaModel
namespace Go.Proofs.Ytlohpphmamapeaa
open Go.RowKit
set_option linter.unusedVariables false

set_option maxHeartbeats 400000 in
theorem within_c (n lo hi : Int) (w : World) : Calls Try.prog 89 #[.int .i64 n, .int .i64 lo, .int .i64 hi] w fun e w' => e = .returned (.bool (M.within n lo hi)) ∧ w = w' := by
  unfold M.within
  by_cases h1 : lo ≤ n <;> by_cases h2 : n ≤ hi
  all_goals
    go_enter Try.func89, Try.ntmps89
    go_wp2
    go_ret
    exact ⟨by simp [*], rfl⟩
set_option maxHeartbeats 400000 in
theorem l01In_c (n lo hi : Int) (w : World) : Calls Try.prog 87 #[.int .i64 n, .int .i64 lo, .int .i64 hi] w fun e w' => e = .returned (.bool (M.within n lo hi)) ∧ w = w' := by
  unfold M.within
  by_cases h1 : lo ≤ n <;> by_cases h2 : n ≤ hi
  all_goals
    go_enter Try.func87, Try.ntmps87
    go_wp2
    go_ret
    exact ⟨by simp [*], rfl⟩

set_option maxHeartbeats 400000 in
theorem spec_IsDigits_c (l : List UInt8) (w : World) (hl : l.length ≤ 1048576) : Calls Try.prog 194 #[.string ⟨l.toArray⟩] w fun e w' => e = .returned (.bool (M.IsDigits l)) ∧ w = w' := by
  go_enter Try.func194, Try.ntmps194
  go_wp2
  go_loop [3] (fun i => ∃ k : Nat, k ≤ l.length ∧ (l.take k).all M.isDig = true ∧ i = .int .i64 k) (fun i => l.length - (intOf i).toNat)
  case atStart => exact ⟨0, by omega, by simp, rfl⟩
  case round =>
    obtain ⟨k, hk, ha, rfl⟩ := hrel
    have HA := Lib.hid ha
    clear ha
    by_cases hlt : k < l.length
    · by_cases h1 : (48 : Int) ≤ (l[k].toNat : Int)
      · by_cases h2 : (l[k].toNat : Int) ≤ 57
        · go_wp2
          go_round
          case rel => exact ⟨k + 1, by omega, by rw [M.all_take_succ _ _ _ hlt, HA.out]; simp [M.isDig, h1, h2], by go_num⟩
          case measure => simp [intOf]; omega
        · go_wp2
          go_ret
          exact ⟨ret_bool (by rw [M.IsDigits, M.all_false_of M.isDig l k hlt (by simp [M.isDig]; omega)]; simp), rfl⟩
      · go_wp2
        go_ret
        exact ⟨ret_bool (by rw [M.IsDigits, M.all_false_of M.isDig l k hlt (by simp [M.isDig]; omega)]; simp), rfl⟩
    · go_wp2
      go_ret
      exact ⟨ret_bool (by rw [M.IsDigits, M.all_of_take _ _ _ (by omega) HA.out]; cases l <;> simp), rfl⟩

theorem replace_no (w : List UInt8) (p n : Int) (b : List UInt8) (h : p < 0 ∨ n < 0 ∨ p > w.length ∨ n > w.length - p ∨ w.length - n + b.length > 16) : M.ReplaceAt w p n b = ([], false) := if_pos h
theorem replace_yes (w : List UInt8) (p n : Int) (b : List UInt8) (h : ¬ (p < 0 ∨ n < 0 ∨ p > w.length ∨ n > w.length - p ∨ w.length - n + b.length > 16)) :
    M.ReplaceAt w p n b = (w.take p.toNat ++ (b ++ w.drop (p + n).toNat), true) := if_neg h
set_option maxHeartbeats 1000000 in
theorem spec_ReplaceAt_c (l : List UInt8) (p n : Int) (b : List UInt8) (w : World) (hl : l.length ≤ 1048576) (hb : b.length ≤ 1048576) :
    Calls Try.prog 172 #[.string ⟨l.toArray⟩, .int .i64 p, .int .i64 n, .string ⟨b.toArray⟩] w fun e w' => e = .returned (.tuple #[.string ⟨(M.ReplaceAt l p n b).1.toArray⟩, .bool (M.ReplaceAt l p n b).2]) ∧ ∃ k, w' = w.drewN k := by
  by_cases h1 : p < 0
  · rw [replace_no l p n b (by omega)]
    go_enter Try.func172, Try.ntmps172
    go_wp2
    go_ret2
    exact ⟨rfl, 0, rfl⟩
  by_cases h2 : n < 0
  · rw [replace_no l p n b (by omega)]
    go_enter Try.func172, Try.ntmps172
    go_wp2
    go_ret2
    exact ⟨rfl, 0, rfl⟩
  by_cases h3 : (l.length : Int) < p
  · rw [replace_no l p n b (by omega)]
    go_enter Try.func172, Try.ntmps172
    go_wp2
    go_ret2
    exact ⟨rfl, 0, rfl⟩
  by_cases h4 : (l.length : Int) - p < n
  · rw [replace_no l p n b (by omega)]
    go_enter Try.func172, Try.ntmps172
    go_wp2
    go_ret2
    exact ⟨rfl, 0, rfl⟩
  by_cases h5 : 16 < (l.length : Int) - n + b.length
  · rw [replace_no l p n b (by omega)]
    go_enter Try.func172, Try.ntmps172
    go_wp2
    go_ret2
    exact ⟨rfl, 0, rfl⟩
  rw [replace_yes l p n b (by omega)]
  obtain ⟨p, rfl⟩ := Int.eq_ofNat_of_zero_le (show 0 ≤ p by omega)
  obtain ⟨n, rfl⟩ := Int.eq_ofNat_of_zero_le (show 0 ≤ n by omega)
  go_enter Try.func172, Try.ntmps172
  go_wp2
  go_quiet (fail)
  go_wp2
  go_ret2
  exact ⟨rfl, nq, rfl⟩

set_option maxHeartbeats 1000000 in
theorem impl_ReplaceAt_c (l : List UInt8) (p n : Int) (b : List UInt8) (w : World) (hl : l.length ≤ 1048576) (hb : b.length ≤ 1048576) :
    Calls Try.prog 153 #[.string ⟨l.toArray⟩, .int .i64 p, .int .i64 n, .string ⟨b.toArray⟩] w fun e w' => e = .returned (.tuple #[.string ⟨(M.ReplaceAt l p n b).1.toArray⟩, .bool (M.ReplaceAt l p n b).2]) ∧ ∃ k, w' = w.drewN k := by
  by_cases h1 : p < 0
  · rw [replace_no l p n b (by omega)]
    go_enter Try.func153, Try.ntmps153
    go_wp2
    go_ret2
    exact ⟨rfl, 0, rfl⟩
  by_cases h2 : n < 0
  · rw [replace_no l p n b (by omega)]
    go_enter Try.func153, Try.ntmps153
    go_wp2
    go_ret2
    exact ⟨rfl, 0, rfl⟩
  by_cases h3 : (l.length : Int) < p
  · rw [replace_no l p n b (by omega)]
    go_enter Try.func153, Try.ntmps153
    go_wp2
    go_ret2
    exact ⟨rfl, 0, rfl⟩
  by_cases h4 : (l.length : Int) - p < n
  · rw [replace_no l p n b (by omega)]
    go_enter Try.func153, Try.ntmps153
    go_wp2
    go_ret2
    exact ⟨rfl, 0, rfl⟩
  by_cases h5 : 16 < (l.length : Int) - n + b.length
  · rw [replace_no l p n b (by omega)]
    go_enter Try.func153, Try.ntmps153
    go_wp2
    go_ret2
    exact ⟨rfl, 0, rfl⟩
  rw [replace_yes l p n b (by omega)]
  obtain ⟨p, rfl⟩ := Int.eq_ofNat_of_zero_le (show 0 ≤ p by omega)
  obtain ⟨n, rfl⟩ := Int.eq_ofNat_of_zero_le (show 0 ≤ n by omega)
  go_enter Try.func153, Try.ntmps153
  go_wp2
  go_quiet (fail)
  go_wp2
  go_ret2
  exact ⟨rfl, nq, rfl⟩


end Go.Proofs.Ytlohpphmamapeaa
