/-
  Contracts of RulesOk and SystemOk.
  Conditions: at most 2^20 rules, their lengths at most 2^20.
-/
import Derived.Test.YtlohpphmamapeaaOkC
namespace Go.Proofs.Ytlohpphmamapeaa
open Go.RowKit
set_option linter.unusedVariables false

theorem rulesOk_no1 {k : Int} {rs : List M.Rule} (h : M.within k 1 4 = false) : M.RulesOk k rs = false := by unfold M.RulesOk; rw [h]; rfl
theorem rulesOk_no2 {k : Int} {rs : List M.Rule} (h : ¬ rs.length ≤ 12) : M.RulesOk k rs = false := by unfold M.RulesOk; rw [decide_eq_false h]; simp
theorem rulesOk_yes {k : Int} {rs : List M.Rule} (h : M.within k 1 4 = true) (h2 : rs.length ≤ 12) : M.RulesOk k rs = !rs.any (M.ruleBad k) := by unfold M.RulesOk; rw [decide_eq_true h2, h]; simp

set_option maxRecDepth 100000 in
set_option maxHeartbeats 2000000 in
theorem impl_RulesOk_c (k : Int) (A : Option Addr) (c : Nat) (rs : List M.Rule) (w : World) (hA : Rd w 2 A rs.length (ruls rs)) (hl : rs.length ≤ 1048576) (hs : ∀ r ∈ rs, r.left.length ≤ 1048576 ∧ r.right.length ≤ 1048576) :
    Calls Try.prog 122 #[.agg #[.int .i64 k, .slice A rs.length c]] w fun e w' => e = .returned (.bool (M.RulesOk k rs)) ∧ Below w.heap.size w w' := by
  have HA := Lib.hid hA
  have HS := Lib.hid hs
  have h1 := Lib.hid (fun W => within_c k 1 4 W)
  obtain ⟨x, hx⟩ : ∃ x, x = M.within k 1 4 := ⟨_, rfl⟩
  rw [← hx] at h1
  cases x
  case false =>
    rw [rulesOk_no1 hx.symm]
    clear hx hA hs
    go_enter Try.func122, Try.ntmps122
    go_wp2_with fail
    refine (h1.out _).mono ?_
    rintro e w1 ⟨rfl, rfl⟩
    go_wp2_with fail
    go_ret
    exact ⟨rfl, (Below.refl _ _).alloc (Nat.le_refl _) _⟩
  case true =>
  by_cases h12 : rs.length ≤ 12
  case neg =>
    rw [rulesOk_no2 h12]
    have h12' : 12 < rs.length := by omega
    clear hx hA hs h12
    go_enter Try.func122, Try.ntmps122
    go_wp2_with fail
    refine (h1.out _).mono ?_
    rintro e w1 ⟨rfl, rfl⟩
    go_wp2_with fail
    go_ret
    exact ⟨rfl, (Below.refl _ _).alloc (Nat.le_refl _) _⟩
  case pos =>
    rw [rulesOk_yes hx.symm h12]
    have h2 := Lib.hid (fun b0 W h0 hA => ContainsFuncRulesOk1_c k b0 A c rs W h0 hA hl hs)
    have hmf : ∀ (fn : Fn) (first cap : Array Value) (w : World), (Instr.makeFunc fn first cap).run Try.prog w = .ok (.func fn first cap) w := fun _ _ _ _ => rfl
    have h12' : ¬ 12 < rs.length := by omega
    clear hx hA hs h12
    generalize rs.any (M.ruleBad k) = q at *
    go_enter Try.func122, Try.ntmps122
    go_wp2_with fail
    refine (h1.out _).mono ?_
    rintro e w1 ⟨rfl, rfl⟩
    go_wp2_with fail
    refine (h2.out _ _ (by simp [go_sem]) (HA.out.below ((Below.refl _ _).alloc (Nat.le_refl _) _))).mono ?_
    rintro e w1 ⟨rfl, hb⟩
    go_wp2_with fail
    go_ret
    exact ⟨rfl, below_alloc1 hb⟩
set_option maxRecDepth 100000 in
set_option maxHeartbeats 2000000 in
theorem spec_RulesOk_c (k : Int) (A : Option Addr) (c : Nat) (rs : List M.Rule) (w : World) (hA : Rd w 2 A rs.length (ruls rs)) (hl : rs.length ≤ 1048576) (hs : ∀ r ∈ rs, r.left.length ≤ 1048576 ∧ r.right.length ≤ 1048576) :
    Calls Try.prog 120 #[.agg #[.int .i64 k, .slice A rs.length c]] w fun e w' => e = .returned (.bool (M.RulesOk k rs)) ∧ Below w.heap.size w w' := by
  have HA := Lib.hid hA
  have HS := Lib.hid hs
  have h1 := Lib.hid (fun W => l01In_c k 1 4 W)
  obtain ⟨x, hx⟩ : ∃ x, x = M.within k 1 4 := ⟨_, rfl⟩
  rw [← hx] at h1
  cases x
  case false =>
    rw [rulesOk_no1 hx.symm]
    clear hx hA hs
    go_enter Try.func120, Try.ntmps120
    go_wp2_with fail
    refine (h1.out _).mono ?_
    rintro e w1 ⟨rfl, rfl⟩
    go_wp2_with fail
    go_ret
    exact ⟨rfl, (Below.refl _ _).alloc (Nat.le_refl _) _⟩
  case true =>
  by_cases h12 : rs.length ≤ 12
  case neg =>
    rw [rulesOk_no2 h12]
    have h12' : 12 < rs.length := by omega
    clear hx hA hs h12
    go_enter Try.func120, Try.ntmps120
    go_wp2_with fail
    refine (h1.out _).mono ?_
    rintro e w1 ⟨rfl, rfl⟩
    go_wp2_with fail
    go_ret
    exact ⟨rfl, (Below.refl _ _).alloc (Nat.le_refl _) _⟩
  case pos =>
    rw [rulesOk_yes hx.symm h12]
    obtain ⟨q, hq⟩ : ∃ q, q = rs.any (M.ruleBad k) := ⟨_, rfl⟩
    rw [← hq]
    have HQ := Lib.hid hq
    have hc0 : ∀ o, (w.alloc (.cells #[.int .i64 k, .slice A rs.length c] o)).cell? ⟨w.heap.size, 0, none⟩ = some (.int .i64 k) := fun o => by simp [go_sem]
    obtain ⟨m, hm⟩ : ∃ m, m = rs.length := ⟨_, rfl⟩
    have hmb : m ≤ 12 := by omega
    have hmb' : ¬ 12 < m := by omega
    rw [← hm] at hc0 ⊢
    have HM := Lib.hid hm
    clear hA hs hq hm hl hx h12
    go_enter Try.func120, Try.ntmps120
    go_wp2_with fail
    refine (h1.out _).mono ?_
    rintro e w1 ⟨rfl, rfl⟩
    go_wp2_with fail
    go_loopw [18] (fun i wr => ∃ (j : Nat), j ≤ m ∧ i = .int .i64 j ∧ (rs.drop j).any (M.ruleBad k) = q ∧ wr.cell? ⟨w.heap.size, 0, none⟩ = some (.int .i64 k) ∧ Below w.heap.size w wr) (fun i _ => m - (intOf i).toNat)
    case atStart => exact ⟨0, by omega, rfl, by rw [List.drop_zero, HQ.out], by simp [go_sem], (Below.refl _ _).alloc (Nat.le_refl _) _⟩
    case round =>
      obtain ⟨j, hj, rfl, hf, hk0, hb⟩ := hrel
      have HB := Lib.hid hb
      have HF := Lib.hid hf
      clear hb hf hc0
      by_cases hlt : j < m
      · obtain ⟨b, o, rfl, hz, hc1, hc2⟩ := (HA.out.below HB.out).ruleAt (k := j) (by have := HM.out; omega)
        have hd : (rs.drop j).any (M.ruleBad k) = (M.ruleBad k rs[j] || (rs.drop (j + 1)).any (M.ruleBad k)) := by rw [List.drop_eq_getElem_cons hz, List.any_cons]
        have hsz := HS.out rs[j] (List.getElem_mem hz)
        have HF2 := Lib.hid (hd.symm.trans HF.out)
        clear hd
        generalize rs[j] = r at *
        obtain ⟨rl, rr⟩ := r
        simp only at hc1 hc2 hsz
        have HC := Lib.hid (fun W => spec_SidesOk_c k rl rr W hsz.1 hsz.2)
        have hk1 := allocKeep1 hk0
        unfold M.ruleBad at HF2
        simp only at HF2
        obtain ⟨y, hy⟩ : ∃ y, y = M.SidesOk k ⟨rl, rr⟩ := ⟨_, rfl⟩
        rw [← hy] at HC HF2
        clear hy
        cases y
        case false =>
          go_wp2_with fail
          refine (HC.out _).mono ?_
          rintro e w1 ⟨rfl, hb1⟩
          go_wp2_with fail
          go_ret
          exact ⟨by have := HF2.out; rw [← this]; rfl, HB.out.trans ((below_alloc1 hb1).mono HB.out.size)⟩
        case true =>
          cases rl with
          | nil =>
            go_wp2_with fail
            refine (HC.out _).mono ?_
            rintro e w1 ⟨rfl, hb1⟩
            have c1 := cellKeep (b := wr.heap.size) (o := 0) hb1 (by simp [go_sem]; rfl)
            go_wp2_with fail
            go_ret
            exact ⟨by have := HF2.out; rw [← this]; rfl, HB.out.trans ((below_alloc1 hb1).mono HB.out.size)⟩
          | cons ch tl =>
            go_wp2_with fail
            refine (HC.out _).mono ?_
            rintro e w1 ⟨rfl, hb1⟩
            have c1 := cellKeep (b := wr.heap.size) (o := 0) hb1 (by simp [go_sem]; rfl)
            have c2 := cellKeep hb1 (hk1 _)
            go_wp2_with fail
            go_roundw
            case rel => exact ⟨j + 1, by omega, by go_num, by have := HF2.out; rw [← this]; rfl, c2, HB.out.trans ((below_alloc1 hb1).mono HB.out.size)⟩
            case measure => simp [intOf]; omega
      · have e : q = false := by have := HF.out; rw [List.drop_eq_nil_of_le (by have := HM.out; omega)] at this; exact this.symm
        go_wp2
        go_ret
        exact ⟨by rw [e]; rfl, HB.out⟩
set_option maxRecDepth 100000 in
set_option maxHeartbeats 2000000 in
theorem impl_SystemOk_c (k : Int) (A : Option Addr) (c : Nat) (rs : List M.Rule) (w : World) (hA : Rd w 2 A rs.length (ruls rs)) (hl : rs.length ≤ 1048576) (hs : ∀ r ∈ rs, r.left.length ≤ 1048576 ∧ r.right.length ≤ 1048576) :
    Calls Try.prog 63 #[.agg #[.int .i64 k, .slice A rs.length c]] w fun e w' => e = .returned (.bool (M.SystemOk k rs)) ∧ Below w.heap.size w w' := by
  unfold M.SystemOk
  have HA := Lib.hid hA
  have h1 := Lib.hid (fun W hA => impl_RulesOk_c k A c rs W hA hl hs)
  have h2 := Lib.hid (fun W hA => ContainsFuncSystemOk1_c A c rs W hA hl hs)
  clear hA hs
  generalize rs.any M.notLess = y at *
  generalize M.RulesOk k rs = x at *
  cases x
  all_goals
    go_enter Try.func63, Try.ntmps63
    go_wp2_with fail
    refine (h1.out _ (HA.out.below ((Below.refl _ _).alloc (Nat.le_refl _) _))).mono ?_
    rintro e w1 ⟨rfl, hb⟩
    have hb0 := below_alloc1 hb
  · go_wp2_with fail
    go_ret
    exact ⟨rfl, hb0⟩
  ·
    have c1 : w1.cell? ⟨w.heap.size, 1, none⟩ = some (.slice A rs.length c) := cellKeep hb (by simp [go_sem])
    go_wp2_with fail
    refine (h2.out _ (HA.out.below hb0)).mono ?_
    rintro e w2 ⟨rfl, hb2⟩
    go_wp2_with fail
    go_ret
    exact ⟨rfl, hb0.trans (hb2.mono hb0.size)⟩
set_option maxRecDepth 100000 in
set_option maxHeartbeats 2000000 in
theorem spec_SystemOk_c (k : Int) (A : Option Addr) (c : Nat) (rs : List M.Rule) (w : World) (hA : Rd w 2 A rs.length (ruls rs)) (hl : rs.length ≤ 1048576) (hs : ∀ r ∈ rs, r.left.length ≤ 1048576 ∧ r.right.length ≤ 1048576) :
    Calls Try.prog 60 #[.agg #[.int .i64 k, .slice A rs.length c]] w fun e w' => e = .returned (.bool (M.SystemOk k rs)) ∧ Below w.heap.size w w' := by
  unfold M.SystemOk
  have HA := Lib.hid hA
  have HS := Lib.hid hs
  have h1 := Lib.hid (fun W hA => spec_RulesOk_c k A c rs W hA hl hs)
  generalize M.RulesOk k rs = x at *
  cases x
  case false =>
    clear hA hs
    go_enter Try.func60, Try.ntmps60
    go_wp2_with fail
    refine (h1.out _ (HA.out.below ((Below.refl _ _).alloc (Nat.le_refl _) _))).mono ?_
    rintro e w1 ⟨rfl, hb⟩
    go_wp2_with fail
    go_ret
    exact ⟨rfl, below_alloc1 hb⟩
  case true =>
    obtain ⟨q, hq⟩ : ∃ q, q = rs.any M.notLess := ⟨_, rfl⟩
    rw [← hq]
    have HQ := Lib.hid hq
    have HM := Lib.hid hl
    clear hA hs hq
    go_enter Try.func60, Try.ntmps60
    go_wp2_with fail
    refine (h1.out _ (HA.out.below ((Below.refl _ _).alloc (Nat.le_refl _) _))).mono ?_
    rintro e w1 ⟨rfl, hb⟩
    have c1 : w1.cell? ⟨w.heap.size, 1, none⟩ = some (.slice A rs.length c) := cellKeep hb (by simp [go_sem])
    have hb0 := below_alloc1 hb
    clear hb
    go_wp2_with fail
    go_loopw [11] (fun i wr => ∃ (j : Nat), j ≤ rs.length ∧ i = .int .i64 j ∧ (rs.drop j).any M.notLess = q ∧ Below w.heap.size w wr) (fun i _ => rs.length - (intOf i).toNat)
    case atStart => exact ⟨0, by omega, rfl, by rw [List.drop_zero, HQ.out], hb0⟩
    case round =>
      obtain ⟨j, hj, rfl, hf, hb⟩ := hrel
      have HB := Lib.hid hb
      have HF := Lib.hid hf
      clear hb hf hb0
      by_cases hlt : j < rs.length
      · obtain ⟨b, o, rfl, hz, hc1, hc2⟩ := (HA.out.below HB.out).ruleAt (k := j) hlt
        have hd : (rs.drop j).any M.notLess = (M.notLess rs[j] || (rs.drop (j + 1)).any M.notLess) := by rw [List.drop_eq_getElem_cons hz, List.any_cons]
        have hsz := HS.out rs[j] (List.getElem_mem hz)
        have HF2 := Lib.hid (hd.symm.trans HF.out)
        clear hd
        generalize rs[j] = r at *
        obtain ⟨rl, rr⟩ := r
        simp only at hc1 hc2 hsz
        have HC := Lib.hid (fun W => toBelow1 (spec_IsLess_c rr rl W (by omega) (by omega)))
        unfold M.notLess at HF2
        simp only at HF2
        generalize M.IsLess rr rl = y at *
        cases y
        case false =>
          go_wp2_with fail
          refine (HC.out _).mono ?_
          rintro e w2 ⟨rfl, hb1⟩
          go_wp2_with fail
          go_ret
          exact ⟨by have := HF2.out; rw [← this]; rfl, HB.out.trans ((below_alloc1 hb1).mono HB.out.size)⟩
        case true =>
          go_wp2_with fail
          refine (HC.out _).mono ?_
          rintro e w2 ⟨rfl, hb1⟩
          go_wp2_with fail
          go_roundw
          case rel => exact ⟨j + 1, by omega, by go_num, by have := HF2.out; rw [← this]; rfl, HB.out.trans ((below_alloc1 hb1).mono HB.out.size)⟩
          case measure => simp [intOf]; omega
      · have e : q = false := by have := HF.out; rw [List.drop_eq_nil_of_le (by omega)] at this; exact this.symm
        go_wp2
        go_ret
        exact ⟨by rw [e]; rfl, HB.out⟩

end Go.Proofs.Ytlohpphmamapeaa
