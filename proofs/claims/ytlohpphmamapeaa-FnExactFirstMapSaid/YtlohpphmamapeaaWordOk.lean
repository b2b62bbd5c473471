/-
  Contracts of WordOk: each call returns what the plain function of the same name gives.
  Conditions: lengths of at most 2^20.
-/
import Derived.Test.YtlohpphmamapeaaWordC
namespace Go.Proofs.Ytlohpphmamapeaa
open Go.RowKit
set_option linter.unusedVariables false

set_option maxRecDepth 100000 in
set_option maxHeartbeats 1000000 in
theorem hasLetters_c (k : Int) (l : List UInt8) (w : World) (hl : l.length ≤ 1048576) (hk1 : 1 ≤ k) (hk2 : k ≤ 4) : Calls Try.prog 163 #[.int .i64 k, .string ⟨l.toArray⟩] w fun e w' => e = .returned (.bool (M.hasLetters k l)) ∧ w = w' := by
  go_enter Try.func163, Try.ntmps163
  go_wp2
  go_loop [5, 8] (fun _ i => ∃ j : Nat, j ≤ l.length ∧ (l.take j).all (M.isLetter k) = true ∧ i = .int .i64 j) (fun _ i => l.length - (intOf i).toNat)
  case atStart => exact ⟨0, by omega, by simp, rfl⟩
  case round =>
    obtain ⟨j, hj, ha, rfl⟩ := hrel
    have HA := Lib.hid ha
    clear ha
    by_cases hlt : j < l.length
    · have HX := Lib.hid (M.isLetter_within k l[j])
      have hu := u8_lt l[j]
      by_cases hx : (97 : Int) ≤ (l[j].toNat : Int) ∧ (l[j].toNat : Int) ≤ 97 + k - 1
      · have hd := HX.out.trans (M.isLetter_true (c := l[j]) (by omega))
        have HD := Lib.hid (M.isLetter_true (c := l[j]) hx)
        go_wp2_with (go_at_call 89; refine (within_c _ _ _ _).mono ?_; rintro e w' ⟨rfl, rfl⟩)
        go_round
        case rel => exact ⟨j + 1, by omega, by rw [M.all_take_succ _ _ _ hlt, HA.out, HD.out]; rfl, by go_num⟩
        case measure => simp [intOf]; omega
      · have hd := HX.out.trans (M.isLetter_false (c := l[j]) (by omega))
        have HD := Lib.hid (M.isLetter_false (k := k) (c := l[j]) (by omega))
        go_wp2_with (go_at_call 89; refine (within_c _ _ _ _).mono ?_; rintro e w' ⟨rfl, rfl⟩)
        go_ret
        exact ⟨ret_bool (by rw [M.hasLetters, M.all_false_of _ l j hlt HD.out]), rfl⟩
    · go_wp2
      go_ret
      exact ⟨ret_bool (by rw [M.hasLetters, M.all_of_take _ _ _ (by omega) HA.out]), rfl⟩
set_option maxRecDepth 100000 in
set_option maxHeartbeats 1000000 in
theorem impl_WordOk_c (k : Int) (l : List UInt8) (w : World) (hl : l.length ≤ 1048576) : Calls Try.prog 118 #[.int .i64 k, .string ⟨l.toArray⟩] w fun e w' => e = .returned (.bool (M.WordOk k l)) ∧ w = w' := by
  by_cases hw : 1 ≤ k ∧ k ≤ 4
  · by_cases h3 : l.length ≤ 16
    · rw [M.wordOk_short k l hw h3]
      have HW := M.within_yes k hw
      obtain ⟨h1, h2⟩ := hw
      go_enter Try.func118, Try.ntmps118
      go_wp2_with (first | (go_at_call 89; refine (within_c _ _ _ _).mono ?_; rintro e w' ⟨rfl, rfl⟩) | (go_at_call 163; refine (hasLetters_c _ _ _ hl h1 h2).mono ?_; rintro e w' ⟨rfl, rfl⟩))
      go_ret
      exact ⟨rfl, rfl⟩
    · rw [M.wordOk_no k l (Or.inr (by omega))]
      have HW := M.within_yes k hw
      go_enter Try.func118, Try.ntmps118
      go_wp2_with (first | (go_at_call 89; refine (within_c _ _ _ _).mono ?_; rintro e w' ⟨rfl, rfl⟩))
      go_ret
      exact ⟨rfl, rfl⟩
  · rw [M.wordOk_no k l (Or.inl hw)]
    have HW := M.within_no k hw
    clear hw
    go_enter Try.func118, Try.ntmps118
    go_wp2_with (first | (go_at_call 89; refine (within_c _ _ _ _).mono ?_; rintro e w' ⟨rfl, rfl⟩))
    go_ret
    exact ⟨rfl, rfl⟩
set_option maxRecDepth 100000 in
set_option maxHeartbeats 1000000 in
theorem spec_WordOk_c (k : Int) (l : List UInt8) (w : World) (hl : l.length ≤ 1048576) : Calls Try.prog 143 #[.int .i64 k, .string ⟨l.toArray⟩] w fun e w' => e = .returned (.bool (M.WordOk k l)) ∧ w = w' := by
  by_cases hw : 1 ≤ k ∧ k ≤ 4
  · by_cases h3 : l.length ≤ 16
    · rw [M.wordOk_short k l hw h3]
      have HW := M.within_yes k hw
      obtain ⟨h1, h2⟩ := hw
      go_enter Try.func143, Try.ntmps143
      go_wp2_with (first | (go_at_call 87; refine (l01In_c _ _ _ _).mono ?_; rintro e w' ⟨rfl, rfl⟩))
      go_loop [5] (fun i => ∃ j : Nat, j ≤ l.length ∧ (l.take j).all (M.isLetter k) = true ∧ i = .int .i64 j) (fun i => l.length - (intOf i).toNat)
      case atStart => exact ⟨0, by omega, by simp, rfl⟩
      case round =>
        obtain ⟨j, hj, ha, rfl⟩ := hrel
        have HA := Lib.hid ha
        clear ha
        by_cases hlt : j < l.length
        · have hu := u8_lt l[j]
          by_cases hx : (97 : Int) ≤ (l[j].toNat : Int)
          · by_cases hy : (l[j].toNat : Int) ≤ 97 + k - 1
            · go_wp2
              go_round
              case rel => exact ⟨j + 1, by omega, by rw [M.all_take_succ _ _ _ hlt, HA.out, M.isLetter_true (by omega)]; rfl, by go_num⟩
              case measure => simp [intOf]; omega
            · go_wp2
              go_ret
              exact ⟨ret_bool (by rw [M.hasLetters, M.all_false_of _ l j hlt (M.isLetter_false (by omega))]), rfl⟩
          · go_wp2
            go_ret
            exact ⟨ret_bool (by rw [M.hasLetters, M.all_false_of _ l j hlt (M.isLetter_false (by omega))]), rfl⟩
        · go_wp2
          go_ret
          exact ⟨ret_bool (by rw [M.hasLetters, M.all_of_take _ _ _ (by omega) HA.out]), rfl⟩
    · rw [M.wordOk_no k l (Or.inr (by omega))]
      have HW := M.within_yes k hw
      go_enter Try.func143, Try.ntmps143
      go_wp2_with (first | (go_at_call 87; refine (l01In_c _ _ _ _).mono ?_; rintro e w' ⟨rfl, rfl⟩))
      go_ret
      exact ⟨rfl, rfl⟩
  · rw [M.wordOk_no k l (Or.inl hw)]
    have HW := M.within_no k hw
    clear hw
    go_enter Try.func143, Try.ntmps143
    go_wp2_with (first | (go_at_call 87; refine (l01In_c _ _ _ _).mono ?_; rintro e w' ⟨rfl, rfl⟩))
    go_ret
    exact ⟨rfl, rfl⟩

end Go.Proofs.Ytlohpphmamapeaa
