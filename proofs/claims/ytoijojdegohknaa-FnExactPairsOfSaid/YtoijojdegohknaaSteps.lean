/-
  Contracts of StepsOf.
  Conditions: at most 2^20 rules, words of at most 2^20 bytes.
-/
import Derived.Test.YtoijojdegohknaaModStep
import Derived.Test.YtoijojdegohknaaOkC2
import Derived.Test.YtoijojdegohknaaPlaces
import Derived.BigQuiet
namespace Go.Proofs.Ytoijojdegohknaa
open Go.RowKit
set_option linter.unusedVariables false

theorem rules12 {k : Int} {rs : List M.Rule} (h : M.RulesOk k rs = true) : rs.length ≤ 12 := by
  unfold M.RulesOk at h
  simp only [Bool.and_eq_true, decide_eq_true_eq] at h
  omega
theorem steps_yes {k : Int} {rs : List M.Rule} {l : List UInt8} (h : M.RulesOk k rs = true) : M.StepsOf k rs l = M.stepsTo rs l l.length := if_pos h
theorem steps_no {k : Int} {rs : List M.Rule} {l : List UInt8} (h : M.RulesOk k rs = false) : M.StepsOf k rs l = [] := if_neg (by rw [h]; simp)
theorem steps_add (a b : List M.Step) : steps_ (a ++ b) = steps_ a ++ steps_ b := by simp [steps_]
theorem steps_bound {rs : List M.Rule} {l : List UInt8} {p k : Nat} (hr : rs.length ≤ 12) (hl : l.length ≤ 1048576) (hp : p ≤ l.length) (hk : k ≤ rs.length) : (M.stepsTo rs l p ++ M.stepsRow rs l p k).length ≤ 13000000 := by
  have h1 := M.to_len rs l p
  have h2 := M.row_len rs l p k
  have h3 : p * rs.length ≤ 1048576 * 12 := Nat.mul_le_mul (by omega) hr
  rw [List.length_append]
  omega
set_option maxRecDepth 100000 in
set_option maxHeartbeats 4000000 in
theorem spec_StepsOf_c (k : Int) (A : Option Addr) (c : Nat) (rs : List M.Rule) (l : List UInt8) (w : World) (hA : Rd w 2 A rs.length (ruls rs)) (hl : rs.length ≤ 1048576) (hs : ∀ r ∈ rs, r.left.length ≤ 1048576 ∧ r.right.length ≤ 1048576) (hll : l.length ≤ 1048576) :
    Calls Try.prog 35 #[.agg #[.int .i64 k, .slice A rs.length c], .string ⟨l.toArray⟩] w (RetRd (fun A c => .slice A (M.StepsOf k rs l).length c) 2 (M.StepsOf k rs l).length (steps_ (M.StepsOf k rs l)) w) := by
  have h1 := Lib.hid (fun W hA => spec_RulesOk_c k A c rs W hA hl hs)
  have HA := Lib.hid hA
  have HS := Lib.hid hs
  have HP := Lib.hid (fun (o : Obj) => (Below.refl w.heap.size w).alloc (Nat.le_refl _) o)
  clear hA hs
  obtain ⟨x, hx⟩ : ∃ x, x = M.RulesOk k rs := ⟨_, rfl⟩
  rw [← hx] at h1
  cases x
  case false =>
    rw [steps_no hx.symm]
    clear hx
    go_enter Try.func35, Try.ntmps35
    go_wp2_with fail
    refine (h1.out _ (HA.out.below (HP.out _))).mono ?_
    rintro e w1 ⟨rfl, hb⟩
    go_wp2_with fail
    go_ret
    exact ⟨none, 0, rfl, ⟨rfl, fun h => absurd h (by simp)⟩, below_alloc1 hb⟩
  case true =>
  rw [steps_yes hx.symm]
  have h12 := rules12 hx.symm
  clear hx hl
  obtain ⟨zs, hzs⟩ : ∃ zs, zs = M.stepsTo rs l l.length := ⟨_, rfl⟩
  rw [← hzs]
  have HZ := Lib.hid hzs
  clear hzs
  obtain ⟨m, hm⟩ : ∃ m, m = rs.length := ⟨_, rfl⟩
  have HM := Lib.hid hm
  rw [← hm] at h12 ⊢
  have h13 := Lib.hid h12
  rw [← hm] at HA h1
  clear hm
  go_enter Try.func35, Try.ntmps35
  go_wp2_with fail
  refine (h1.out _ (HA.out.below (HP.out _))).mono ?_
  rintro e w1 ⟨rfl, hb⟩
  have D1 := Lib.hid (show w1.cell? ⟨w.heap.size, 1, none⟩ = some (.slice A m c) from cellKeep hb (by simp [go_sem]))
  have HB0 := Lib.hid (below_alloc1 hb)
  have HA1 := Lib.hid (HA.out.below HB0.out)
  clear hb
  have d1 := allocKeep1 D1.out
  go_wp2_with fail
  clear d1
  go_loopw [5, 6] (fun s z wr => ∃ (i : Nat) (A' : Option Addr) (m' c' : Nat), i ≤ l.length ∧ z = .int .i64 i ∧ s = .slice A' m' c' ∧ m' = (M.stepsTo rs l i ++ M.stepsRow rs l i 0).length ∧ wr.ownsRow w1.heap.size 47 2 (.slice A' m' c') m' (steps_ (M.stepsTo rs l i ++ M.stepsRow rs l i 0)) ∧ Below w1.heap.size w1 wr) (fun _ z _ => l.length - (intOf z).toNat)
  case atStart => exact ⟨0, _, 0, 0, by omega, rfl, rfl, rfl, World.ownsRow_lit w1 #[] 0 (Nat.le_refl _) (by simp [maxLen]) (by simp), (Below.refl _ _).alloc (Nat.le_refl _) _⟩
  case round =>
    obtain ⟨i, A', m', c', hi, rfl, rfl, hm', hown, hb⟩ := hrel
    have e1 := cellKeep hb D1.out
    have HN := Lib.hid hm'
    have HO := Lib.hid hown
    have HB := Lib.hid hb
    clear hm' hown hb
    by_cases hlt : i < l.length
    case neg =>
      obtain rfl : i = l.length := by omega
      have HE := Lib.hid (show M.stepsTo rs l l.length ++ M.stepsRow rs l l.length 0 = zs by rw [HZ.out]; simp [M.stepsRow])
      go_wp2
      go_ret
      exact ⟨A', c', by rw [← HE.out, ← HN.out]; rfl, by rw [← HE.out, ← HN.out]; exact (Own.of_row HO.out).mono HB0.out.size, HB0.out.trans (HB.out.mono HB0.out.size)⟩
    case pos =>
    obtain ⟨wo, hwo⟩ : ∃ wo : World, wo = wr := ⟨_, rfl⟩
    rw [← hwo] at HO HB e1 ⊢
    clear hwo
    go_wp2_with fail
    go_loopw [5, 22] (fun s z wr => ∃ (j : Nat) (A' : Option Addr) (m' c' : Nat), j ≤ m ∧ z = .int .i64 j ∧ s = .slice A' m' c' ∧ m' = (M.stepsTo rs l i ++ M.stepsRow rs l i j).length ∧ wr.ownsRow w1.heap.size 47 2 (.slice A' m' c') m' (steps_ (M.stepsTo rs l i ++ M.stepsRow rs l i j)) ∧ Below w1.heap.size w1 wr) (fun _ z _ => m - (intOf z).toNat)
    case atStart => exact ⟨0, A', m', c', by omega, rfl, rfl, HN.out, by first | exact HO.out | exact own_below HO.out (Below.refl _ _).drew, by first | exact HB.out | exact HB.out.drew⟩
    case round =>
      clear e1 HO HB HN
      obtain ⟨j, A2, m2, c2, hj, rfl, rfl, hm2, hown, hb⟩ := hrel
      have e1 := cellKeep hb D1.out
      have HB := Lib.hid hb
      have HO := Lib.hid hown
      have HN := Lib.hid hm2
      have hnb : m2 ≤ 13000000 := by rw [hm2]; exact steps_bound (by have h1 := HM.out; omega) hll (by omega) (by have h1 := HM.out; omega)
      clear hm2 hown hb
      by_cases hjm : j < m
      case neg =>
        obtain rfl : j = m := by omega
        have HE := Lib.hid (show M.stepsTo rs l (i + 1) ++ M.stepsRow rs l (i + 1) 0 = M.stepsTo rs l i ++ M.stepsRow rs l i j by rw [HM.out]; simp [M.stepsRow, M.stepsTo])
        go_wp2
        go_roundw
        case rel => exact ⟨i + 1, A2, m2, c2, by omega, by go_num, rfl, by rw [HE.out]; exact HN.out, by rw [HE.out]; exact HO.out, HB.out⟩
        case measure => simp [intOf]; omega
      case pos =>
      obtain ⟨b, o, rfl, hz, hc1, hc2⟩ := (HA1.out.below HB.out).ruleAt (k := j) hjm
      have hsz := (HS.out rs[j] (List.getElem_mem hz)).1
      have HIT := Lib.hid (M.hit_at (rs := rs) (l := l) (p := i) hz)
      generalize rs[j] = r at *
      obtain ⟨rl, rr⟩ := r
      simp only at hc1 hc2 hsz HIT

      by_cases hfit : i + rl.length ≤ l.length
      case neg =>
        have HY := Lib.hid (M.row_no (show M.hit rs l i j = false by rw [HIT.out]; exact M.pre_short (by simp; omega)))
        have hfit' : decide ((rl.length : Int) ≤ (l.length : Int) - i) = false := decide_eq_false (by omega)
        clear hfit
        go_wp2_with fail
        go_quiet (fail)
        go_wp2_with fail
        go_roundw
        case rel => exact ⟨j + 1, A2, m2, c2, by omega, by go_num, rfl, by rw [HY.out]; exact HN.out, by rw [HY.out]; exact own_below HO.out (by repeat (first | exact Below.refl _ _ | refine Below.alloc ?_ (by simp <;> omega) _ | refine below_drewN ?_ _ | refine Below.drew ?_)), HB.out.trans ((show Below wr.heap.size wr _ from (by repeat (first | exact Below.refl _ _ | refine Below.alloc ?_ (by simp <;> omega) _ | refine below_drewN ?_ _ | refine Below.drew ?_))).mono HB.out.size)⟩
        case measure => simp [intOf]; omega
      case pos =>
      have hfit' : decide ((rl.length : Int) ≤ (l.length : Int) - i) = true := decide_eq_true (by omega)
      obtain ⟨y, hy⟩ : ∃ y, y = (l.drop i).take rl.length := ⟨_, rfl⟩
      have hy' := hy.symm
      by_cases he : y = rl
      case pos =>
        have HY := Lib.hid (M.row_yes (show M.hit rs l i j = true by rw [HIT.out]; exact decide_eq_true (by rw [← hy]; exact he)))
        subst he
        clear hy
        go_wp2_with fail
        go_quiet (fail)
        go_wp2_with (at_builtin; first | (refine push_law rfl _ _ rfl slStep rfl (own_below HO.out ((Below.refl _ _).alloc (Nat.le_refl _) _)) (us := [.int .i64 j, .int .i64 i]) rfl rfl (by simp [Value.oneCell']) (HB.out.alloc HB.out.size _) rfl (by omega) ?_) | (refine push_law_drew rfl _ _ rfl slStep rfl (own_below HO.out ((Below.refl _ _).alloc (Nat.le_refl _) _)) (us := [.int .i64 j, .int .i64 i]) rfl rfl (by simp [Value.oneCell']) (HB.out.alloc HB.out.size _) rfl (by omega) ?_); intro A3 c3 w3 hown3 hb3)
        go_roundw
        case rel => exact ⟨j + 1, A3, m2 + 1, c3, by omega, by go_num, rfl, by rw [HY.out, ← List.append_assoc, List.length_append, ← HN.out]; rfl, by rw [HY.out, ← List.append_assoc, steps_add]; exact hown3, hb3⟩
        case measure => simp [intOf]; omega
      case neg =>
        have HY := Lib.hid (M.row_no (show M.hit rs l i j = false by rw [HIT.out]; exact decide_eq_false (by rw [← hy]; exact he)))
        have he' : (y == rl) = false := by simpa using he
        clear hy he
        go_wp2_with fail
        go_quiet (fail)
        go_wp2_with fail
        go_roundw
        case rel => exact ⟨j + 1, A2, m2, c2, by omega, by go_num, rfl, by rw [HY.out]; exact HN.out, by rw [HY.out]; exact own_below HO.out (by repeat (first | exact Below.refl _ _ | refine Below.alloc ?_ (by simp <;> omega) _ | refine below_drewN ?_ _ | refine Below.drew ?_)), HB.out.trans ((show Below wr.heap.size wr _ from (by repeat (first | exact Below.refl _ _ | refine Below.alloc ?_ (by simp <;> omega) _ | refine below_drewN ?_ _ | refine Below.drew ?_))).mono HB.out.size)⟩
        case measure => simp [intOf]; omega
set_option maxRecDepth 100000 in
set_option maxHeartbeats 4000000 in
theorem steps_c (k : Int) (A : Option Addr) (c : Nat) (rs : List M.Rule) (l : List UInt8) (w : World) (hA : Rd w 2 A rs.length (ruls rs)) (h12 : rs.length ≤ 12) (hs : ∀ r ∈ rs, r.left.length ≤ 1048576 ∧ r.right.length ≤ 1048576) (hll : l.length ≤ 1048576) :
    Calls Try.prog 83 #[.agg #[.int .i64 k, .slice A rs.length c], .string ⟨l.toArray⟩] w (RetRd (fun A c => .slice A (M.stepsTo rs l l.length).length c) 2 (M.stepsTo rs l l.length).length (steps_ (M.stepsTo rs l l.length)) w) := by
  have HA := Lib.hid hA
  have HS := Lib.hid hs
  have HP := Lib.hid (fun (o : Obj) => (Below.refl w.heap.size w).alloc (Nat.le_refl _) o)
  clear hA hs
  obtain ⟨zs, hzs⟩ : ∃ zs, zs = M.stepsTo rs l l.length := ⟨_, rfl⟩
  rw [← hzs]
  have HZ := Lib.hid hzs
  clear hzs
  obtain ⟨m, hm⟩ : ∃ m, m = rs.length := ⟨_, rfl⟩
  have HM := Lib.hid hm
  rw [← hm] at h12 ⊢
  have h13 := Lib.hid h12
  rw [← hm] at HA
  clear hm
  go_enter Try.func83, Try.ntmps83
  go_wp2_with fail
  obtain ⟨w1, hw1⟩ : ∃ w1 : World, w1 = w.alloc (.cells #[.int .i64 k, .slice A m c] 26) := ⟨_, rfl⟩
  have D1 := Lib.hid (show w1.cell? ⟨w.heap.size, 1, none⟩ = some (.slice A m c) by rw [hw1]; simp [go_sem])
  have HB0 := Lib.hid (show Below w.heap.size w w1 by rw [hw1]; exact HP.out _)
  have HA1 := Lib.hid (HA.out.below HB0.out)
  rw [← hw1]
  clear hw1
  go_loopw [5, 6, 11] (fun s _ z wr => ∃ (i : Nat) (A' : Option Addr) (m' c' : Nat), i ≤ l.length ∧ z = .int .i64 i ∧ s = .slice A' m' c' ∧ m' = (M.stepsTo rs l i ++ M.stepsRow rs l i 0).length ∧ wr.ownsRow w1.heap.size 47 2 (.slice A' m' c') m' (steps_ (M.stepsTo rs l i ++ M.stepsRow rs l i 0)) ∧ Below w1.heap.size w1 wr) (fun _ _ z _ => l.length - (intOf z).toNat)
  case atStart => exact ⟨0, none, 0, 0, by omega, rfl, rfl, rfl, World.ownsRow_nil _ _ _ _, Below.refl _ _⟩
  case round =>
    obtain ⟨i, A', m', c', hi, rfl, rfl, hm', hown, hb⟩ := hrel
    have e1 := cellKeep hb D1.out
    have HN := Lib.hid hm'
    have HO := Lib.hid hown
    have HB := Lib.hid hb
    clear hm' hown hb
    by_cases hlt : i < l.length
    case neg =>
      obtain rfl : i = l.length := by omega
      have HE := Lib.hid (show M.stepsTo rs l l.length ++ M.stepsRow rs l l.length 0 = zs by rw [HZ.out]; simp [M.stepsRow])
      go_wp2
      go_ret
      exact ⟨A', c', by rw [← HE.out, ← HN.out]; rfl, by rw [← HE.out, ← HN.out]; exact (Own.of_row HO.out).mono HB0.out.size, HB0.out.trans (HB.out.mono HB0.out.size)⟩
    case pos =>
    obtain ⟨wo, hwo⟩ : ∃ wo : World, wo = wr := ⟨_, rfl⟩
    rw [← hwo] at HO HB e1 ⊢
    clear hwo
    go_wp2_with fail
    go_loopw [5, 7, 8, 17] (fun s _ _ z wr => ∃ (j : Nat) (A' : Option Addr) (m' c' : Nat), j ≤ m ∧ z = .int .i64 j ∧ s = .slice A' m' c' ∧ m' = (M.stepsTo rs l i ++ M.stepsRow rs l i j).length ∧ wr.ownsRow w1.heap.size 47 2 (.slice A' m' c') m' (steps_ (M.stepsTo rs l i ++ M.stepsRow rs l i j)) ∧ Below w1.heap.size w1 wr) (fun _ _ _ z _ => m - (intOf z).toNat)
    case atStart => exact ⟨0, A', m', c', by omega, rfl, rfl, HN.out, by first | exact HO.out | exact own_below HO.out (Below.refl _ _).drew, by first | exact HB.out | exact HB.out.drew⟩
    case round =>
      clear e1 HO HB HN
      obtain ⟨j, A2, m2, c2, hj, rfl, rfl, hm2, hown, hb⟩ := hrel
      have e1 := cellKeep hb D1.out
      have HB := Lib.hid hb
      have HO := Lib.hid hown
      have HN := Lib.hid hm2
      have hnb : m2 ≤ 13000000 := by rw [hm2]; exact steps_bound (by have h1 := HM.out; omega) hll (by omega) (by have h1 := HM.out; omega)
      clear hm2 hown hb
      by_cases hjm : j < m
      case neg =>
        obtain rfl : j = m := by omega
        have HE := Lib.hid (show M.stepsTo rs l (i + 1) ++ M.stepsRow rs l (i + 1) 0 = M.stepsTo rs l i ++ M.stepsRow rs l i j by rw [HM.out]; simp [M.stepsRow, M.stepsTo])
        go_wp2
        go_roundw
        case rel => exact ⟨i + 1, A2, m2, c2, by omega, by go_num, rfl, by rw [HE.out]; exact HN.out, by rw [HE.out]; exact HO.out, HB.out⟩
        case measure => simp [intOf]; omega
      case pos =>
      obtain ⟨b, o, rfl, hz, hc1, hc2⟩ := (HA1.out.below HB.out).ruleAt (k := j) hjm
      have hsz := (HS.out rs[j] (List.getElem_mem hz)).1
      have HIT := Lib.hid (M.hit_at (rs := rs) (l := l) (p := i) hz)
      generalize rs[j] = r at *
      obtain ⟨rl, rr⟩ := r
      simp only at hc1 hc2 hsz HIT

      have HC := Lib.hid (fun W => HasPrefix_c (l.drop i) rl W (by simp; omega) hsz)
      obtain ⟨v, hv⟩ : ∃ v, v = M.pre rl (l.drop i) := ⟨_, rfl⟩
      rw [← hv] at HC HIT
      clear hv
      cases v
      case true =>
        have HY := Lib.hid (M.row_yes HIT.out)
        go_wp2_with fail
        go_quiet ((go_at_call 103; exact Calls.quiet_of_same (quiet1 (HC.out _))))
        go_wp2_with (at_builtin; first | (refine push_law rfl _ _ rfl slStep rfl (own_below HO.out ((Below.refl _ _).alloc (Nat.le_refl _) _)) (us := [.int .i64 j, .int .i64 i]) rfl rfl (by simp [Value.oneCell']) (HB.out.alloc HB.out.size _) rfl (by omega) ?_) | (refine push_law_drew rfl _ _ rfl slStep rfl (own_below HO.out ((Below.refl _ _).alloc (Nat.le_refl _) _)) (us := [.int .i64 j, .int .i64 i]) rfl rfl (by simp [Value.oneCell']) (HB.out.alloc HB.out.size _) rfl (by omega) ?_); intro A3 c3 w3 hown3 hb3)
        go_roundw
        case rel => exact ⟨j + 1, A3, m2 + 1, c3, by omega, by go_num, rfl, by rw [HY.out, ← List.append_assoc, List.length_append, ← HN.out]; rfl, by rw [HY.out, ← List.append_assoc, steps_add]; exact hown3, hb3⟩
        case measure => simp [intOf]; omega
      case false =>
        have HY := Lib.hid (M.row_no HIT.out)
        go_wp2_with fail
        go_quiet ((go_at_call 103; exact Calls.quiet_of_same (quiet1 (HC.out _))))
        go_wp2_with fail
        go_roundw
        case rel => exact ⟨j + 1, A2, m2, c2, by omega, by go_num, rfl, by rw [HY.out]; exact HN.out, by rw [HY.out]; exact own_below HO.out (by repeat (first | exact Below.refl _ _ | refine Below.alloc ?_ (by simp <;> omega) _ | refine below_drewN ?_ _ | refine Below.drew ?_)), HB.out.trans ((show Below wr.heap.size wr _ from (by repeat (first | exact Below.refl _ _ | refine Below.alloc ?_ (by simp <;> omega) _ | refine below_drewN ?_ _ | refine Below.drew ?_))).mono HB.out.size)⟩
        case measure => simp [intOf]; omega
set_option maxRecDepth 100000 in
set_option maxHeartbeats 1000000 in
theorem impl_StepsOf_c (k : Int) (A : Option Addr) (c : Nat) (rs : List M.Rule) (l : List UInt8) (w : World) (hA : Rd w 2 A rs.length (ruls rs)) (hl : rs.length ≤ 1048576) (hs : ∀ r ∈ rs, r.left.length ≤ 1048576 ∧ r.right.length ≤ 1048576) (hll : l.length ≤ 1048576) :
    Calls Try.prog 36 #[.agg #[.int .i64 k, .slice A rs.length c], .string ⟨l.toArray⟩] w (RetRd (fun A c => .slice A (M.StepsOf k rs l).length c) 2 (M.StepsOf k rs l).length (steps_ (M.StepsOf k rs l)) w) := by
  have h1 := Lib.hid (fun W hA => impl_RulesOk_c k A c rs W hA hl hs)
  have h2 := Lib.hid (fun W hA h12 => steps_c k A c rs l W hA h12 hs hll)
  have HA := Lib.hid hA
  have HP := Lib.hid (fun (o : Obj) => (Below.refl w.heap.size w).alloc (Nat.le_refl _) o)
  clear hA hs
  obtain ⟨x, hx⟩ : ∃ x, x = M.RulesOk k rs := ⟨_, rfl⟩
  rw [← hx] at h1
  cases x
  case false =>
    rw [steps_no hx.symm]
    clear hx
    go_enter Try.func36, Try.ntmps36
    go_wp2_with fail
    refine (h1.out _ (HA.out.below (HP.out _))).mono ?_
    rintro e w1 ⟨rfl, hb⟩
    go_wp2_with fail
    go_ret
    exact ⟨none, 0, rfl, ⟨rfl, fun h => absurd h (by simp)⟩, below_alloc1 hb⟩
  case true =>
  rw [steps_yes hx.symm]
  have H12 := Lib.hid (rules12 hx.symm)
  generalize M.stepsTo rs l l.length = zs at *
  clear hx
  go_enter Try.func36, Try.ntmps36
  go_wp2_with fail
  refine (h1.out _ (HA.out.below (HP.out _))).mono ?_
  rintro e w1 ⟨rfl, hb⟩
  have d0 : w1.cell? ⟨w.heap.size, 0, none⟩ = some (.int .i64 k) := cellKeep hb (by simp [go_sem])
  have d1 : w1.cell? ⟨w.heap.size, 1, none⟩ = some (.slice A rs.length c) := cellKeep hb (by simp [go_sem])
  have HB := Lib.hid (below_alloc1 hb)
  clear hb
  go_wp2_with fail
  refine (h2.out _ (HA.out.below HB.out) H12.out).mono ?_
  rintro e w2 ⟨A2, c2, rfl, ho, hb2⟩
  have HO := Lib.hid (ho.mono HB.out.size)
  have HB2 := Lib.hid (HB.out.trans (hb2.mono HB.out.size))
  clear ho hb2
  go_wp2_with fail
  go_ret
  exact ⟨_, _, rfl, HO.out, HB2.out⟩

end Go.Proofs.Ytoijojdegohknaa
