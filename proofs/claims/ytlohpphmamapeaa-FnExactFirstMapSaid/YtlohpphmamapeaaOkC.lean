/-
  Contracts of RulesOk and SystemOk, and of slices.ContainsFunc with their closures.
  Conditions: at most 2^20 rules, their lengths at most 2^20.
-/
import Derived.Test.YtlohpphmamapeaaSys
namespace Go.Proofs.Ytlohpphmamapeaa
open Go.RowKit
set_option linter.unusedVariables false

set_option maxRecDepth 100000 in
set_option maxHeartbeats 1000000 in
theorem SystemOk1_c (r : M.Rule) (w : World) (hr : r.left.length ≤ 1048576 ∧ r.right.length ≤ 1048576) : Calls Try.prog 123 #[.agg #[.string ⟨r.left.toArray⟩, .string ⟨r.right.toArray⟩]] w fun e w' => e = .returned (.bool (M.notLess r)) ∧ Below w.heap.size w w' := by
  unfold M.notLess
  obtain ⟨l, r⟩ := r
  have h1 := Lib.hid (fun W => impl_IsLess_c r l W (by have := hr.2; simp at this; omega) (by have := hr.1; simp at this; omega))
  simp only
  generalize M.IsLess r l = x at *
  cases x
  all_goals
    go_enter Try.func123, Try.ntmps123
    go_wp2_with fail
    refine (h1.out _).mono ?_
    rintro e w1 ⟨rfl, hb⟩
    go_wp2_with fail
    go_ret
    exact ⟨rfl, below_alloc1 hb⟩
set_option maxRecDepth 100000 in
set_option maxHeartbeats 1000000 in
theorem RulesOk1_c (k : Int) (b : Nat) (r : M.Rule) (w : World) (hk : w.cell? ⟨b, 0, none⟩ = some (.int .i64 k)) (hr : r.left.length ≤ 1048576 ∧ r.right.length ≤ 1048576) : Calls Try.prog 164 #[.agg #[.string ⟨r.left.toArray⟩, .string ⟨r.right.toArray⟩], .pointer (some ⟨b, 0, none⟩)] w fun e w' => e = .returned (.bool (M.ruleBad k r)) ∧ Below w.heap.size w w' := by
  unfold M.ruleBad
  obtain ⟨l, r⟩ := r
  simp only at hr
  have h1 := Lib.hid (fun W => impl_SidesOk_c k l r W hr.1 hr.2)
  have hk' := allocKeep1 hk
  simp only
  generalize M.SidesOk k ⟨l, r⟩ = x at *
  cases x
  case false =>
    go_enter Try.func164, Try.ntmps164
    go_wp2_with fail
    refine (h1.out _).mono ?_
    rintro e w1 ⟨rfl, hb⟩
    go_wp2_with fail
    go_ret
    exact ⟨rfl, below_alloc1 hb⟩
  case true =>
    cases l
    all_goals
      go_enter Try.func164, Try.ntmps164
      go_wp2_with fail
      refine (h1.out _).mono ?_
      rintro e w1 ⟨rfl, hb⟩
      have c1 := cellKeep (b := w.heap.size) (o := 0) hb (by simp [go_sem]; rfl)
      go_wp2_with fail
      go_ret
      exact ⟨rfl, below_alloc1 hb⟩
set_option maxRecDepth 100000 in
set_option maxHeartbeats 1000000 in
theorem IndexFuncSystemOk1_c (A : Option Addr) (c : Nat) (rs : List M.Rule) (w : World) (hA : Rd w 2 A rs.length (ruls rs)) (hl : rs.length ≤ 1048576) (hs : ∀ r ∈ rs, r.left.length ≤ 1048576 ∧ r.right.length ≤ 1048576) :
    Calls Try.prog 162 #[.slice A rs.length c, .func (.func 123) #[] #[]] w fun e w' => (∃ z : Int, e = .returned (.int .i64 z) ∧ decide (0 ≤ z) = rs.any M.notLess) ∧ Below w.heap.size w w' := by
  have HA := Lib.hid hA
  have HS := Lib.hid hs
  obtain ⟨q, hq⟩ : ∃ q, q = rs.any M.notLess := ⟨_, rfl⟩
  rw [← hq]
  have HQ := Lib.hid hq
  obtain ⟨m, hm⟩ : ∃ m, m = rs.length := ⟨_, rfl⟩
  have hmb : m ≤ 1048576 := by omega
  rw [← hm]
  have HM := Lib.hid hm
  clear hA hs hq hm hl
  go_enter Try.func162, Try.ntmps162
  go_wp2
  go_loopw [8] (fun i wr => ∃ (k : Nat), k ≤ m ∧ i = .int .i64 k ∧ (rs.drop k).any M.notLess = q ∧ Below w.heap.size w wr) (fun i _ => m - (intOf i).toNat)
  case atStart => exact ⟨0, by omega, rfl, by rw [List.drop_zero, HQ.out], Below.refl _ _⟩
  case round =>
    obtain ⟨k, hk, rfl, hf, hb⟩ := hrel
    have HB := Lib.hid hb
    have HF := Lib.hid hf
    clear hb hf
    by_cases hlt : k < m
    · obtain ⟨b, o, rfl, hz, hc1, hc2⟩ := (HA.out.below HB.out).ruleAt (k := k) (by have := HM.out; omega)
      have hd : (rs.drop k).any M.notLess = (M.notLess rs[k] || (rs.drop (k + 1)).any M.notLess) := by rw [List.drop_eq_getElem_cons hz, List.any_cons]
      have HC := Lib.hid (fun W => SystemOk1_c rs[k] W (HS.out rs[k] (List.getElem_mem hz)))
      have HF2 := Lib.hid (hd.symm.trans HF.out)
      clear hd
      generalize rs[k] = r at *
      obtain ⟨rl, rr⟩ := r
      simp only at hc1 hc2 HC
      generalize M.notLess ⟨rl, rr⟩ = v at *
      cases v
      case true =>
        go_wp2_with fail
        refine (HC.out _).mono ?_
        rintro e w1 ⟨rfl, hb1⟩
        go_wp2_with fail
        go_ret
        exact ⟨⟨k, rfl, by have := HF2.out; rw [← this]; simp⟩, HB.out.trans (hb1.mono HB.out.size)⟩
      case false =>
        go_wp2_with fail
        refine (HC.out _).mono ?_
        rintro e w1 ⟨rfl, hb1⟩
        go_wp2_with fail
        go_roundw
        case rel => exact ⟨k + 1, by omega, by go_num, by have := HF2.out; rw [← this]; simp, HB.out.trans (hb1.mono HB.out.size)⟩
        case measure => simp [intOf]; omega
    · have e : q = false := by have := HF.out; rw [List.drop_eq_nil_of_le (by have := HM.out; omega)] at this; exact this.symm
      go_wp2
      go_ret
      exact ⟨⟨-1, rfl, by rw [e]; rfl⟩, HB.out⟩
set_option maxRecDepth 100000 in
set_option maxHeartbeats 1000000 in
theorem ContainsFuncSystemOk1_c (A : Option Addr) (c : Nat) (rs : List M.Rule) (w : World) (hA : Rd w 2 A rs.length (ruls rs)) (hl : rs.length ≤ 1048576) (hs : ∀ r ∈ rs, r.left.length ≤ 1048576 ∧ r.right.length ≤ 1048576) :
    Calls Try.prog 114 #[.slice A rs.length c, .func (.func 123) #[] #[]] w fun e w' => e = .returned (.bool (rs.any M.notLess)) ∧ Below w.heap.size w w' := by
  have h1 := Lib.hid (IndexFuncSystemOk1_c A c rs w hA hl hs)
  clear hA hs
  generalize rs.any M.notLess = q at *
  go_enter Try.func114, Try.ntmps114
  go_wp2_with fail
  refine h1.out.mono ?_
  rintro e w1 ⟨⟨z, rfl, hz⟩, hb⟩
  go_wp2_with fail
  go_ret
  exact ⟨rfl, hb⟩
set_option maxRecDepth 100000 in
set_option maxHeartbeats 1000000 in
theorem IndexFuncRulesOk1_c (k0 : Int) (b0 : Nat) (A : Option Addr) (c : Nat) (rs : List M.Rule) (w : World) (h0 : w.cell? ⟨b0, 0, none⟩ = some (.int .i64 k0)) (hA : Rd w 2 A rs.length (ruls rs)) (hl : rs.length ≤ 1048576) (hs : ∀ r ∈ rs, r.left.length ≤ 1048576 ∧ r.right.length ≤ 1048576) :
    Calls Try.prog 162 #[.slice A rs.length c, .func (.func 164) #[] #[.pointer (some ⟨b0, 0, none⟩)]] w fun e w' => (∃ z : Int, e = .returned (.int .i64 z) ∧ decide (0 ≤ z) = rs.any (M.ruleBad k0)) ∧ Below w.heap.size w w' := by
  have HA := Lib.hid hA
  have HS := Lib.hid hs
  have H0 := Lib.hid h0
  clear h0
  obtain ⟨q, hq⟩ : ∃ q, q = rs.any (M.ruleBad k0) := ⟨_, rfl⟩
  rw [← hq]
  have HQ := Lib.hid hq
  obtain ⟨m, hm⟩ : ∃ m, m = rs.length := ⟨_, rfl⟩
  have hmb : m ≤ 1048576 := by omega
  rw [← hm]
  have HM := Lib.hid hm
  clear hA hs hq hm hl
  go_enter Try.func162, Try.ntmps162
  go_wp2
  go_loopw [8] (fun i wr => ∃ (k : Nat), k ≤ m ∧ i = .int .i64 k ∧ (rs.drop k).any (M.ruleBad k0) = q ∧ Below w.heap.size w wr) (fun i _ => m - (intOf i).toNat)
  case atStart => exact ⟨0, by omega, rfl, by rw [List.drop_zero, HQ.out], Below.refl _ _⟩
  case round =>
    obtain ⟨k, hk, rfl, hf, hb⟩ := hrel
    have HB := Lib.hid hb
    have HF := Lib.hid hf
    clear hb hf
    by_cases hlt : k < m
    · obtain ⟨b, o, rfl, hz, hc1, hc2⟩ := (HA.out.below HB.out).ruleAt (k := k) (by have := HM.out; omega)
      have hd : (rs.drop k).any (M.ruleBad k0) = ((M.ruleBad k0) rs[k] || (rs.drop (k + 1)).any (M.ruleBad k0)) := by rw [List.drop_eq_getElem_cons hz, List.any_cons]
      have HC := Lib.hid (fun W h => RulesOk1_c k0 b0 rs[k] W h (HS.out rs[k] (List.getElem_mem hz)))
      have HF2 := Lib.hid (hd.symm.trans HF.out)
      clear hd
      generalize rs[k] = r at *
      obtain ⟨rl, rr⟩ := r
      simp only at hc1 hc2 HC
      generalize (M.ruleBad k0) ⟨rl, rr⟩ = v at *
      cases v
      case true =>
        go_wp2_with fail
        refine (HC.out _ (cellKeep HB.out H0.out)).mono ?_
        rintro e w1 ⟨rfl, hb1⟩
        go_wp2_with fail
        go_ret
        exact ⟨⟨k, rfl, by have := HF2.out; rw [← this]; simp⟩, HB.out.trans (hb1.mono HB.out.size)⟩
      case false =>
        go_wp2_with fail
        refine (HC.out _ (cellKeep HB.out H0.out)).mono ?_
        rintro e w1 ⟨rfl, hb1⟩
        go_wp2_with fail
        go_roundw
        case rel => exact ⟨k + 1, by omega, by go_num, by have := HF2.out; rw [← this]; simp, HB.out.trans (hb1.mono HB.out.size)⟩
        case measure => simp [intOf]; omega
    · have e : q = false := by have := HF.out; rw [List.drop_eq_nil_of_le (by have := HM.out; omega)] at this; exact this.symm
      go_wp2
      go_ret
      exact ⟨⟨-1, rfl, by rw [e]; rfl⟩, HB.out⟩
set_option maxRecDepth 100000 in
set_option maxHeartbeats 1000000 in
theorem ContainsFuncRulesOk1_c (k0 : Int) (b0 : Nat) (A : Option Addr) (c : Nat) (rs : List M.Rule) (w : World) (h0 : w.cell? ⟨b0, 0, none⟩ = some (.int .i64 k0)) (hA : Rd w 2 A rs.length (ruls rs)) (hl : rs.length ≤ 1048576) (hs : ∀ r ∈ rs, r.left.length ≤ 1048576 ∧ r.right.length ≤ 1048576) :
    Calls Try.prog 114 #[.slice A rs.length c, .func (.func 164) #[] #[.pointer (some ⟨b0, 0, none⟩)]] w fun e w' => e = .returned (.bool (rs.any (M.ruleBad k0))) ∧ Below w.heap.size w w' := by
  have h1 := Lib.hid (IndexFuncRulesOk1_c k0 b0 A c rs w h0 hA hl hs)
  clear hA hs
  generalize rs.any (M.ruleBad k0) = q at *
  go_enter Try.func114, Try.ntmps114
  go_wp2_with fail
  refine h1.out.mono ?_
  rintro e w1 ⟨⟨z, rfl, hz⟩, hb⟩
  go_wp2_with fail
  go_ret
  exact ⟨rfl, hb⟩

end Go.Proofs.Ytlohpphmamapeaa
