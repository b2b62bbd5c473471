/-
  Contracts of IsLess and of what it calls.
  Conditions: lengths of at most 2^40.
-/
import Derived.Test.YtlohpphmamapeaaMem
namespace Go.Proofs.Ytlohpphmamapeaa
open Go.RowKit
set_option linter.unusedVariables false

set_option maxRecDepth 100000 in
set_option maxHeartbeats 1000000 in
theorem spec_IsLess_c (u v : List UInt8) (w : World) (hu : u.length ≤ 1099511627776) (hv : v.length ≤ 1099511627776) :
    Calls Try.prog 97 #[.string ⟨u.toArray⟩, .string ⟨v.toArray⟩] w fun e w' => e = .returned (.bool (M.IsLess u v)) ∧ w = w' := by
  unfold M.IsLess
  by_cases h : u.length = v.length
  · have h1 : ((u.length : Int) != (v.length : Int)) = false := by simp [h]
    rw [show (decide (u.length < v.length) || (decide (u.length = v.length) && Op.bytesLess u v)) = Op.bytesLess u v by simp [h]]
    clear h
    go_enter Try.func97, Try.ntmps97
    go_wp2
    go_ret
    exact ⟨rfl, rfl⟩
  · have h1 : ((u.length : Int) != (v.length : Int)) = true := by rw [bne_iff_ne]; omega
    rw [show (decide (u.length < v.length) || (decide (u.length = v.length) && Op.bytesLess u v)) = decide ((u.length : Int) < v.length) by simp [h]]
    clear h
    go_enter Try.func97, Try.ntmps97
    go_wp2
    go_ret
    exact ⟨ret_bool (by simp), rfl⟩
set_option maxRecDepth 100000 in
set_option maxHeartbeats 1000000 in
theorem compareInt_c (a b : Int) (w : World) : Calls Try.prog 182 #[.int .i64 a, .int .i64 b] w fun e w' => e = .returned (.int .i64 (M.cmpI a b)) ∧ w = w' := by
  unfold M.cmpI
  by_cases h1 : a < b
  · rw [if_pos h1]
    go_enter Try.func182, Try.ntmps182
    go_wp2
    go_ret
    exact ⟨rfl, rfl⟩
  · rw [if_neg h1]
    by_cases h2 : b < a
    · rw [if_pos h2]
      go_enter Try.func182, Try.ntmps182
      go_wp2
      go_ret
      exact ⟨rfl, rfl⟩
    · rw [if_neg h2]
      go_enter Try.func182, Try.ntmps182
      go_wp2
      go_ret
      exact ⟨rfl, rfl⟩
set_option maxRecDepth 100000 in
set_option maxHeartbeats 1000000 in
theorem compareString_c (u v : List UInt8) (w : World) : Calls Try.prog 183 #[.string ⟨u.toArray⟩, .string ⟨v.toArray⟩] w fun e w' => e = .returned (.int .i64 (M.cmpB u v)) ∧ w = w' := by
  unfold M.cmpB
  by_cases h1 : Op.bytesLess u v = true
  · rw [if_pos h1]
    go_enter Try.func183, Try.ntmps183
    go_wp2
    go_ret
    exact ⟨rfl, rfl⟩
  · rw [if_neg h1]
    have h1' : Op.bytesLess u v = false := by simpa using h1
    clear h1
    by_cases h2 : u = v
    · rw [if_pos h2]
      subst h2
      go_enter Try.func183, Try.ntmps183
      go_wp2
      go_ret
      exact ⟨rfl, rfl⟩
    · rw [if_neg h2]
      have h2' : (u == v) = false := by simpa using h2
      clear h2
      go_enter Try.func183, Try.ntmps183
      go_wp2
      go_ret
      exact ⟨rfl, rfl⟩
set_option maxRecDepth 100000 in
set_option maxHeartbeats 1000000 in
theorem orInt_c (x y : Int) (b : Nat) (w : World) (h0 : w.cell? ⟨b, 0, none⟩ = some (.int .i64 x)) (h1 : w.cell? ⟨b, 1, none⟩ = some (.int .i64 y)) :
    Calls Try.prog 181 #[.slice (some ⟨b, 0, none⟩) 2 2] w fun e w' => e = .returned (.int .i64 (M.orI x y)) ∧ Below w.heap.size w w' := by
  go_enter Try.func181, Try.ntmps181
  go_wp2
  go_loopw [5, 8] (fun _ i wr => ∃ k : Nat, k ≤ 2 ∧ i = .int .i64 k ∧ (0 < k → x = 0) ∧ (1 < k → y = 0) ∧ ∃ m, wr = w.drewN m) (fun _ i _ => 2 - (intOf i).toNat)
  case atStart => exact ⟨0, by omega, rfl, by omega, by omega, 0, rfl⟩
  case round =>
    obtain ⟨k, hk, rfl, hx, hy, m, rfl⟩ := hrel
    have HX := Lib.hid hx
    have HY := Lib.hid hy
    clear hx hy
    match k, hk with
    | 0, _ =>
      by_cases hz : x = 0
      · subst hz
        go_wp2
        go_roundw
        case rel => exact ⟨1, by omega, by go_num, by simp, by omega, _, rfl⟩
        case measure => simp [intOf]
      · have hz' : (x != 0) = true := by rw [bne_iff_ne]; exact hz
        have HZ := Lib.hid hz
        clear hz
        go_wp2
        go_ret
        exact ⟨ret_int (by unfold M.orI; rw [if_neg HZ.out]), by repeat (first | exact Below.refl _ _ | refine below_drewN ?_ _ | refine Below.drew ?_)⟩
    | 1, _ =>
      have hx0 : x = 0 := HX.out (by omega)
      subst hx0
      by_cases hz : y = 0
      · subst hz
        go_wp2
        go_roundw
        case rel => exact ⟨2, by omega, by go_num, by simp, by simp, _, rfl⟩
        case measure => simp [intOf]
      · have hz' : (y != 0) = true := by rw [bne_iff_ne]; exact hz
        clear hz
        go_wp2
        go_ret
        exact ⟨ret_int (by simp [M.orI]), by repeat (first | exact Below.refl _ _ | refine below_drewN ?_ _ | refine Below.drew ?_)⟩
    | 2, _ =>
      have hx0 : x = 0 := HX.out (by omega)
      have hy0 : y = 0 := HY.out (by omega)
      subst hx0 hy0
      go_wp2
      go_ret
      exact ⟨ret_int (by simp [M.orI]), by repeat (first | exact Below.refl _ _ | refine below_drewN ?_ _ | refine Below.drew ?_)⟩
set_option maxRecDepth 100000 in
set_option maxHeartbeats 1000000 in
theorem compareWords_c (u v : List UInt8) (w : World) (hu : u.length ≤ 1099511627776) (hv : v.length ≤ 1099511627776) :
    Calls Try.prog 165 #[.string ⟨u.toArray⟩, .string ⟨v.toArray⟩] w fun e w' => e = .returned (.int .i64 (M.cmpW u v)) ∧ Below w.heap.size w w' := by
  unfold M.cmpW
  have h1 := fun W => compareInt_c (u.length : Int) (v.length : Int) W
  have h2 := fun W => compareString_c u v W
  generalize M.cmpI (u.length : Int) (v.length : Int) = x at *
  generalize M.cmpB u v = y at *
  have H1 := Lib.hid h1
  have H2 := Lib.hid h2
  clear h1 h2
  go_enter Try.func165, Try.ntmps165
  go_wp2_with fail
  refine (H1.out _).mono ?_
  rintro e w1 ⟨rfl, rfl⟩
  go_wp2_with fail
  refine (H2.out _).mono ?_
  rintro e w2 ⟨rfl, rfl⟩
  go_wp2_with fail
  refine (orInt_c x y w.heap.size _ (by simp) (by simp)).mono ?_
  rintro e w3 ⟨rfl, hb⟩
  go_wp2_with fail
  go_ret
  exact ⟨rfl, ((Below.refl _ _).alloc (Nat.le_refl _) _).trans (hb.mono (by simp))⟩
set_option maxRecDepth 100000 in
set_option maxHeartbeats 1000000 in
theorem impl_IsLess_c (u v : List UInt8) (w : World) (hu : u.length ≤ 1099511627776) (hv : v.length ≤ 1099511627776) :
    Calls Try.prog 124 #[.string ⟨u.toArray⟩, .string ⟨v.toArray⟩] w fun e w' => e = .returned (.bool (M.IsLess u v)) ∧ Below w.heap.size w w' := by
  rw [← M.less_cmp]
  have H1 := Lib.hid (fun W => compareWords_c u v W hu hv)
  go_enter Try.func124, Try.ntmps124
  go_wp2_with fail
  refine (H1.out _).mono ?_
  rintro e w1 ⟨rfl, hb⟩
  go_wp2_with fail
  go_ret
  exact ⟨rfl, hb⟩

end Go.Proofs.Ytlohpphmamapeaa
