/-
  Contracts of the functions on systems: LongestSide, HasRule, SameSystem, RulesOk, SystemOk.
  Conditions: at most 2^20 rules, their lengths at most 2^20.
-/
import Derived.Test.YtkmhkcfioinpcaaSys
namespace Go.Proofs.Ytkmhkcfioinpcaa
open Go.RowKit
set_option linter.unusedVariables false

set_option maxRecDepth 100000 in
set_option maxHeartbeats 1000000 in
theorem impl_LongestSide_c (k0 : Int) (A : Option Addr) (c : Nat) (rs : List M.Rule) (w : World) (hA : Rd w 2 A rs.length (ruls rs)) (hl : rs.length ≤ 1048576) (hs : ∀ r ∈ rs, r.left.length ≤ 1048576 ∧ r.right.length ≤ 1048576) :
    Calls Try.prog 22 #[.agg #[.int .i64 k0, .slice A rs.length c]] w fun e w' => e = .returned (.int .i64 (M.LongestSide rs)) ∧ Below w.heap.size w w' := by
  have HA := Lib.hid hA
  have HS := Lib.hid hs
  obtain ⟨q, hq⟩ : ∃ q, q = M.longest rs 0 := ⟨_, rfl⟩
  have hq' : M.LongestSide rs = (q : Int) := by rw [hq]; rfl
  rw [hq']
  have HQ := Lib.hid hq
  obtain ⟨m, hm⟩ : ∃ m, m = rs.length := ⟨_, rfl⟩
  have hmb : m ≤ 1048576 := by omega
  rw [← hm]
  have HM := Lib.hid hm
  clear hA hs hq hm hl hq'
  go_enter Try.func22, Try.ntmps22
  go_wp2
  go_loopw [3, 9] (fun z i wr => ∃ (k n : Nat), k ≤ m ∧ i = .int .i64 k ∧ z = .int .i64 n ∧ n ≤ 1048576 ∧ M.longest (rs.drop k) n = q ∧ Below w.heap.size w wr) (fun _ i _ => m - (intOf i).toNat)
  case atStart => exact ⟨0, 0, by omega, rfl, rfl, by omega, by rw [List.drop_zero, HQ.out], (Below.refl _ _).alloc (Nat.le_refl _) _⟩
  case round =>
    obtain ⟨k, n, hk, rfl, rfl, hn, hf, hb⟩ := hrel
    have HB := Lib.hid hb
    have HF := Lib.hid hf
    clear hb hf
    by_cases hlt : k < m
    · obtain ⟨b, o, rfl, hz, hc1, hc2⟩ := (HA.out.below HB.out).ruleAt (k := k) (by have := HM.out; omega)
      have hsl := (HS.out rs[k] (List.getElem_mem hz)).1
      have HF2 := Lib.hid ((M.longest_drop (n := n) hz).symm.trans HF.out)
      generalize rs[k] = r at *
      obtain ⟨rl, rr⟩ := r
      simp only at hc1 hc2 hsl HF2
      have hmb2 : max n rl.length ≤ 1048576 := by omega
      go_wp2_with fail
      go_roundw
      case rel => exact ⟨k + 1, max n rl.length, by omega, by go_num, by simp; split <;> omega, hmb2, HF2.out, HB.out.alloc (by have := HB.out.size; omega) _⟩
      case measure => simp [intOf]; omega
    · have e : n = q := by have := HF.out; rw [List.drop_eq_nil_of_le (by have := HM.out; omega)] at this; exact this
      go_wp2
      go_ret
      exact ⟨ret_int (by rw [e]), HB.out⟩
set_option maxRecDepth 100000 in
set_option maxHeartbeats 1000000 in
theorem spec_LongestSide_c (k0 : Int) (A : Option Addr) (c : Nat) (rs : List M.Rule) (w : World) (hA : Rd w 2 A rs.length (ruls rs)) (hl : rs.length ≤ 1048576) (hs : ∀ r ∈ rs, r.left.length ≤ 1048576 ∧ r.right.length ≤ 1048576) :
    Calls Try.prog 20 #[.agg #[.int .i64 k0, .slice A rs.length c]] w fun e w' => e = .returned (.int .i64 (M.LongestSide rs)) ∧ Below w.heap.size w w' := by
  have HA := Lib.hid hA
  have HS := Lib.hid hs
  obtain ⟨q, hq⟩ : ∃ q, q = M.longest rs 0 := ⟨_, rfl⟩
  have hq' : M.LongestSide rs = (q : Int) := by rw [hq]; rfl
  rw [hq']
  have HQ := Lib.hid hq
  obtain ⟨m, hm⟩ : ∃ m, m = rs.length := ⟨_, rfl⟩
  have hmb : m ≤ 1048576 := by omega
  rw [← hm]
  have HM := Lib.hid hm
  clear hA hs hq hm hl hq'
  go_enter Try.func20, Try.ntmps20
  go_wp2
  go_loopw [3, 9] (fun z i wr => ∃ (k n : Nat), k ≤ m ∧ i = .int .i64 k ∧ z = .int .i64 n ∧ n ≤ 1048576 ∧ M.longest (rs.drop k) n = q ∧ Below w.heap.size w wr) (fun _ i _ => m - (intOf i).toNat)
  case atStart => exact ⟨0, 0, by omega, rfl, rfl, by omega, by rw [List.drop_zero, HQ.out], (Below.refl _ _).alloc (Nat.le_refl _) _⟩
  case round =>
    obtain ⟨k, n, hk, rfl, rfl, hn, hf, hb⟩ := hrel
    have HB := Lib.hid hb
    have HF := Lib.hid hf
    clear hb hf
    by_cases hlt : k < m
    · obtain ⟨b, o, rfl, hz, hc1, hc2⟩ := (HA.out.below HB.out).ruleAt (k := k) (by have := HM.out; omega)
      have hsl := (HS.out rs[k] (List.getElem_mem hz)).1
      have HF2 := Lib.hid ((M.longest_drop (n := n) hz).symm.trans HF.out)
      generalize rs[k] = r at *
      obtain ⟨rl, rr⟩ := r
      simp only at hc1 hc2 hsl HF2
      have hmb2 : max n rl.length ≤ 1048576 := by omega
      go_wp2_with fail
      go_roundw
      case rel => exact ⟨k + 1, max n rl.length, by omega, by go_num, by simp; split <;> omega, hmb2, HF2.out, HB.out.alloc (by have := HB.out.size; omega) _⟩
      case measure => simp [intOf]; omega
    · have e : n = q := by have := HF.out; rw [List.drop_eq_nil_of_le (by have := HM.out; omega)] at this; exact this
      go_wp2
      go_ret
      exact ⟨ret_int (by rw [e]), HB.out⟩

end Go.Proofs.Ytkmhkcfioinpcaa
