/-
  Contracts of IsName: each call returns what the plain function of the same name gives.
  Conditions: lengths of at most 2^20.
-/
import Derived.Test.YtkdccehihpgcdaaDoorWordC
namespace Go.Proofs.YtkdccehihpgcdaaDoor
open Go.RowKit
set_option linter.unusedVariables false

set_option maxRecDepth 100000 in
set_option maxHeartbeats 1000000 in
theorem impl_IsName_c (l : List UInt8) (w : World) (hl : l.length ≤ 1048576) : Calls Tryd.prog 17 #[.string ⟨l.toArray⟩] w fun e w' => e = .returned (.bool (M.IsName l)) ∧ w = w' := by
  by_cases hs : l.length < 1 ∨ 8 < l.length
  · rw [M.isName_long l hs]
    go_enter Tryd.func17, Tryd.ntmps17
    by_cases h1 : l.length < 1
    · go_wp2
      go_ret
      exact ⟨rfl, rfl⟩
    · have h2 : 8 < l.length := by omega
      go_wp2
      go_ret
      exact ⟨rfl, rfl⟩
  have hs1 : 1 ≤ l.length := by omega
  have hs2 : l.length ≤ 8 := by omega
  clear hs
  by_cases hc : (97 : Int) ≤ (l[0].toNat : Int) ∧ (l[0].toNat : Int) ≤ 122
  case neg =>
    rw [M.isName_head l (by omega) (M.isLow_false (by omega))]
    by_cases h1 : (97 : Int) ≤ (l[0].toNat : Int)
    · have h2 : (122 : Int) < (l[0].toNat : Int) := by omega
      clear hc
      go_enter Tryd.func17, Tryd.ntmps17
      go_wp2
      go_ret
      exact ⟨rfl, rfl⟩
    · clear hc
      go_enter Tryd.func17, Tryd.ntmps17
      go_wp2
      go_ret
      exact ⟨rfl, rfl⟩
  case pos =>
    obtain ⟨hc1, hc2⟩ := hc
    go_enter Tryd.func17, Tryd.ntmps17
    go_wp2
    go_loop [3, 24] (fun _ i => ∃ k : Nat, k ≤ l.length ∧ M.NameTo l k ∧ i = .int .i64 k) (fun _ i => l.length - (intOf i).toNat)
    case atStart => exact ⟨0, by omega, M.nameTo_zero l, rfl⟩
    case round =>
      obtain ⟨k, hk, ha, rfl⟩ := hrel
      have HA := Lib.hid ha
      clear ha
      by_cases hlt : k < l.length
      · by_cases h0 : k = 0
        · subst h0
          go_wp2
          go_round
          case rel => exact ⟨1, by omega, M.nameTo_succ l 0 hlt HA.out (Or.inl (M.isLow_true (by omega))), by go_num⟩
          case measure => simp [intOf]; omega
        · have h00 : 0 < k := by omega
          have HX := Lib.hid (M.digits_one l[k])
          rcases byteClass l[k] with ⟨h1, h2⟩ | ⟨h1, h2⟩ | ⟨h1, h2⟩ | ⟨h1, h2⟩ | ⟨h1, h2⟩
          · have d1 : decide ((l[k].toNat : Int) ≤ 122) = true := decide_eq_true (by omega)
            have hd := HX.out.trans (M.isDig_false (c := l[k]) (by omega))
            go_wp2_with (go_at_call 42; refine (impl_IsDigits_c _ _ (by simp)).mono ?_; rintro e w' ⟨rfl, rfl⟩)
            go_ret
            exact ⟨ret_bool (M.isName_no l k hlt (M.isLow_false (by omega)) (Or.inr (M.isDig_false (by omega)))).symm, rfl⟩
          · have d1 : decide ((l[k].toNat : Int) ≤ 122) = true := decide_eq_true (by omega)
            have hd := HX.out.trans (M.isDig_true (c := l[k]) (by omega))
            go_wp2_with (go_at_call 42; refine (impl_IsDigits_c _ _ (by simp)).mono ?_; rintro e w' ⟨rfl, rfl⟩)
            go_round
            case rel => exact ⟨k + 1, by omega, M.nameTo_succ l k hlt HA.out (Or.inr ⟨h00, M.isDig_true (by omega)⟩), by go_num⟩
            case measure => simp [intOf]; omega
          · have d1 : decide ((l[k].toNat : Int) ≤ 122) = true := decide_eq_true (by omega)
            have hd := HX.out.trans (M.isDig_false (c := l[k]) (by omega))
            go_wp2_with (go_at_call 42; refine (impl_IsDigits_c _ _ (by simp)).mono ?_; rintro e w' ⟨rfl, rfl⟩)
            go_ret
            exact ⟨ret_bool (M.isName_no l k hlt (M.isLow_false (by omega)) (Or.inr (M.isDig_false (by omega)))).symm, rfl⟩
          · have d1 : decide ((l[k].toNat : Int) ≤ 122) = true := decide_eq_true (by omega)
            go_wp2
            go_round
            case rel => exact ⟨k + 1, by omega, M.nameTo_succ l k hlt HA.out (Or.inl (M.isLow_true (by omega))), by go_num⟩
            case measure => simp [intOf]; omega
          · have d1 : decide ((l[k].toNat : Int) ≤ 122) = false := decide_eq_false (by omega)
            have hd := HX.out.trans (M.isDig_false (c := l[k]) (by omega))
            go_wp2_with (go_at_call 42; refine (impl_IsDigits_c _ _ (by simp)).mono ?_; rintro e w' ⟨rfl, rfl⟩)
            go_ret
            exact ⟨ret_bool (M.isName_no l k hlt (M.isLow_false (by omega)) (Or.inr (M.isDig_false (by omega)))).symm, rfl⟩
      · go_wp2
        go_ret
        exact ⟨ret_bool (by rw [M.isName_yes l k (by omega) HA.out]; simp [M.within]; omega), rfl⟩


end Go.Proofs.YtkdccehihpgcdaaDoor
