/-
  Contracts of CountBack.
  Conditions: at most 2^20 links.
-/
import Derived.Test.YtkmhkcfioinpcaaRecLink
namespace Go.Proofs.Ytkmhkcfioinpcaa
open Go.RowKit
set_option linter.unusedVariables false

def M.backs (xs : List M.Link) : Nat := (xs.filter (·.back)).length
theorem backs_drop {xs : List M.Link} {k : Nat} (h : k < xs.length) : M.backs (xs.drop k) = (if xs[k].back = true then 1 else 0) + M.backs (xs.drop (k + 1)) := by
  unfold M.backs
  rw [List.drop_eq_getElem_cons h, List.filter_cons]
  split <;> simp [Nat.add_comm]
set_option maxRecDepth 100000 in
set_option maxHeartbeats 1000000 in
theorem impl_CountBack_c (A : Option Addr) (c : Nat) (xs : List M.Link) (w : World) (hA : Rd w 3 A xs.length (links_ xs)) (hl : xs.length ≤ 1048576) :
    Calls Try.prog 37 #[.slice A xs.length c] w fun e w' => e = .returned (.int .i64 (M.backs xs : Nat)) ∧ Below w.heap.size w w' := by
  have HA := Lib.hid hA
  obtain ⟨q, hq⟩ : ∃ q, q = M.backs xs := ⟨_, rfl⟩
  rw [← hq]
  have HQ := Lib.hid hq
  have hqb : q ≤ 1048576 := by rw [hq]; exact Nat.le_trans (List.length_filter_le _ _) hl
  obtain ⟨m, hm⟩ : ∃ m, m = xs.length := ⟨_, rfl⟩
  have hmb : m ≤ 1048576 := by omega
  rw [← hm]
  have HM := Lib.hid hm
  clear hA hq hm hl
  go_enter Try.func37, Try.ntmps37
  go_wp2
  go_loopw [3, 8] (fun z i wr => ∃ (k n : Nat), k ≤ m ∧ i = .int .i64 k ∧ z = .int .i64 n ∧ n + M.backs (xs.drop k) = q ∧ Below w.heap.size w wr) (fun _ i _ => m - (intOf i).toNat)
  case atStart => exact ⟨0, 0, by omega, rfl, rfl, by rw [List.drop_zero, HQ.out, Nat.zero_add], Below.refl _ _⟩
  case round =>
    obtain ⟨k, n, hk, rfl, rfl, hf, hb⟩ := hrel
    have hnb : n ≤ 1048576 := by omega
    have HB := Lib.hid hb
    have HF := Lib.hid hf
    clear hb hf
    by_cases hlt : k < m
    · obtain ⟨b, o, rfl, hz, hc0, hc1, hc2⟩ := (HA.out.below HB.out).linkAt (k := k) (by have := HM.out; omega)
      have HD := Lib.hid (backs_drop hz)
      generalize xs[k] = x at *
      obtain ⟨x0, x1, x2⟩ := x
      simp only at hc0 hc1 hc2 HD
      cases x2
      case false =>
        go_wp2_with fail
        go_roundw
        case rel => exact ⟨k + 1, n, by omega, by go_num, rfl, by have h1 := HD.out; have h2 := HF.out; simp at h1; omega, HB.out.alloc HB.out.size _⟩
        case measure => simp [intOf]; omega
      case true =>
        go_wp2_with fail
        go_roundw
        case rel => exact ⟨k + 1, n + 1, by omega, by go_num, by go_num, by have h1 := HD.out; have h2 := HF.out; simp at h1; omega, HB.out.alloc HB.out.size _⟩
        case measure => simp [intOf]; omega
    · have e : n = q := by have := HF.out; rw [List.drop_eq_nil_of_le (by have := HM.out; omega)] at this; simpa [M.backs] using this
      go_wp2
      go_ret
      exact ⟨ret_int (by rw [e]), HB.out⟩
set_option maxRecDepth 100000 in
set_option maxHeartbeats 1000000 in
theorem spec_CountBack_c (A : Option Addr) (c : Nat) (xs : List M.Link) (w : World) (hA : Rd w 3 A xs.length (links_ xs)) (hl : xs.length ≤ 1048576) :
    Calls Try.prog 35 #[.slice A xs.length c] w fun e w' => e = .returned (.int .i64 (M.backs xs : Nat)) ∧ Below w.heap.size w w' := by
  have HA := Lib.hid hA
  obtain ⟨q, hq⟩ : ∃ q, q = M.backs xs := ⟨_, rfl⟩
  rw [← hq]
  have HQ := Lib.hid hq
  have hqb : q ≤ 1048576 := by rw [hq]; exact Nat.le_trans (List.length_filter_le _ _) hl
  obtain ⟨m, hm⟩ : ∃ m, m = xs.length := ⟨_, rfl⟩
  have hmb : m ≤ 1048576 := by omega
  rw [← hm]
  have HM := Lib.hid hm
  clear hA hq hm hl
  go_enter Try.func35, Try.ntmps35
  go_wp2
  go_loopw [3, 8] (fun z i wr => ∃ (k n : Nat), k ≤ m ∧ i = .int .i64 k ∧ z = .int .i64 n ∧ n + M.backs (xs.drop k) = q ∧ Below w.heap.size w wr) (fun _ i _ => m - (intOf i).toNat)
  case atStart => exact ⟨0, 0, by omega, rfl, rfl, by rw [List.drop_zero, HQ.out, Nat.zero_add], Below.refl _ _⟩
  case round =>
    obtain ⟨k, n, hk, rfl, rfl, hf, hb⟩ := hrel
    have hnb : n ≤ 1048576 := by omega
    have HB := Lib.hid hb
    have HF := Lib.hid hf
    clear hb hf
    by_cases hlt : k < m
    · obtain ⟨b, o, rfl, hz, hc0, hc1, hc2⟩ := (HA.out.below HB.out).linkAt (k := k) (by have := HM.out; omega)
      have HD := Lib.hid (backs_drop hz)
      generalize xs[k] = x at *
      obtain ⟨x0, x1, x2⟩ := x
      simp only at hc0 hc1 hc2 HD
      cases x2
      case false =>
        go_wp2_with fail
        go_roundw
        case rel => exact ⟨k + 1, n, by omega, by go_num, rfl, by have h1 := HD.out; have h2 := HF.out; simp at h1; omega, HB.out.alloc HB.out.size _⟩
        case measure => simp [intOf]; omega
      case true =>
        go_wp2_with fail
        go_roundw
        case rel => exact ⟨k + 1, n + 1, by omega, by go_num, by go_num, by have h1 := HD.out; have h2 := HF.out; simp at h1; omega, HB.out.alloc HB.out.size _⟩
        case measure => simp [intOf]; omega
    · have e : n = q := by have := HF.out; rw [List.drop_eq_nil_of_le (by have := HM.out; omega)] at this; simpa [M.backs] using this
      go_wp2
      go_ret
      exact ⟨ret_int (by rw [e]), HB.out⟩

end Go.Proofs.Ytkmhkcfioinpcaa
