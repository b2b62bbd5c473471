/-
  Contracts of SameSystem and of slices.Equal at rules.
  Conditions: at most 2^20 rules.
-/
import Derived.Test.YtkmhkcfioinpcaaSys
namespace Go.Proofs.Ytkmhkcfioinpcaa
open Go.RowKit
set_option linter.unusedVariables false

set_option maxRecDepth 100000 in
set_option maxHeartbeats 2000000 in
theorem EqualRule_c (A B : Option Addr) (c d : Nat) (xs ys : List M.Rule) (w : World) (hA : Rd w 2 A xs.length (ruls xs)) (hB : Rd w 2 B ys.length (ruls ys)) (hx : xs.length ≤ 1048576) (hy : ys.length ≤ 1048576) :
    Calls Try.prog 50 #[.slice A xs.length c, .slice B ys.length d] w fun e w' => e = .returned (.bool (decide (xs = ys))) ∧ Below w.heap.size w w' := by
  by_cases hl : xs.length = ys.length
  case neg =>
    rw [decide_eq_false (show ¬ xs = ys from fun e => hl (by rw [e]))]
    have hl' : ((xs.length : Int) != (ys.length : Int)) = true := by rw [bne_iff_ne]; omega
    go_enter Try.func50, Try.ntmps50
    go_wp2
    go_ret
    exact ⟨rfl, Below.refl _ _⟩
  case pos =>
    have HL := Lib.hid hl
    have HA := Lib.hid hA
    have HB := Lib.hid hB
    obtain ⟨n, hn⟩ : ∃ n, n = ys.length := ⟨_, rfl⟩
    have hn1 : xs.length = n := by omega
    rw [hn1, ← hn]
    have HN := Lib.hid hn
    have HN1 := Lib.hid hn1
    have hn2 : n ≤ 1048576 := by omega
    clear hA hB hn hn1 hl hx hy
    go_enter Try.func50, Try.ntmps50
    go_wp2
    go_loopw [13] (fun i wr => ∃ k : Nat, k ≤ n ∧ i = .int .i64 k ∧ xs.take k = ys.take k ∧ Below w.heap.size w wr) (fun i _ => n - (intOf i).toNat)
    case atStart => exact ⟨0, by omega, rfl, by simp, by repeat (first | exact Below.refl _ _ | refine Below.alloc ?_ (by simp <;> omega) _)⟩
    case round =>
      obtain ⟨k, hk, rfl, ht, hb⟩ := hrel
      have HT := Lib.hid ht
      have HW := Lib.hid hb
      clear ht hb
      by_cases hlt : k < n
      · obtain ⟨b1, o1, rfl, hz1, hc1, hd1⟩ := (HA.out.below HW.out).ruleAt (k := k) (by have := HN1.out; omega)
        obtain ⟨b2, o2, rfl, hz2, hc2, hd2⟩ := (HB.out.below HW.out).ruleAt (k := k) (by have := HN.out; omega)
        have HE := Lib.hid (fun (h : xs[k].left = ys[k].left ∧ xs[k].right = ys[k].right) => take_eq_succ hz1 hz2 HT.out (rule_ext (x := xs[k]) (y := ys[k]) h.1 h.2))
        have HNE := Lib.hid (fun (h : ¬ (xs[k].left = ys[k].left ∧ xs[k].right = ys[k].right)) => ne_at hz1 hz2 (fun e => h (by rw [e]; exact ⟨rfl, rfl⟩)))
        generalize xs[k] = x at *
        generalize ys[k] = y at *
        obtain ⟨xl, xr⟩ := x
        obtain ⟨yl, yr⟩ := y
        simp only at hc1 hd1 hc2 hd2 HE HNE
        by_cases hel : xl = yl
        case neg =>
          have hel' : (xl == yl) = false := by simpa using hel
          have HNN := Lib.hid (HNE.out (fun h => hel h.1))
          clear hel HE HNE
          go_wp2
          go_quiet (fail)
          go_wp2
          go_ret
          exact ⟨ret_bool (decide_eq_false HNN.out).symm, below_drewN HW.out _⟩
        case pos =>
        by_cases her : xr = yr
        case neg =>
          have her' : (xr == yr) = false := by simpa using her
          have HNN := Lib.hid (HNE.out (fun h => her h.2))
          clear her HE HNE
          subst hel
          go_wp2
          go_quiet (fail)
          go_wp2
          go_ret
          exact ⟨ret_bool (decide_eq_false HNN.out).symm, below_drewN HW.out _⟩
        case pos =>
          have HEE := Lib.hid (HE.out ⟨hel, her⟩)
          clear HE HNE
          subst hel
          subst her
          go_wp2
          go_quiet (fail)
          go_wp2
          go_roundw
          case rel => exact ⟨k + 1, by omega, by go_num, HEE.out, below_drewN HW.out _⟩
          case measure => simp [intOf]; omega
      · go_wp2
        go_ret
        exact ⟨ret_bool (decide_eq_true (eq_of_takes HL.out (by have := HN1.out; omega) HT.out)).symm, HW.out⟩
def M.SameSystem (k1 k2 : Int) (xs ys : List M.Rule) : Bool := decide (k1 = k2) && decide (xs = ys)
set_option maxRecDepth 100000 in
set_option maxHeartbeats 2000000 in
theorem impl_SameSystem_c (k1 k2 : Int) (A B : Option Addr) (c d : Nat) (xs ys : List M.Rule) (w : World) (hA : Rd w 2 A xs.length (ruls xs)) (hB : Rd w 2 B ys.length (ruls ys)) (hx : xs.length ≤ 1048576) (hy : ys.length ≤ 1048576) :
    Calls Try.prog 27 #[.agg #[.int .i64 k1, .slice A xs.length c], .agg #[.int .i64 k2, .slice B ys.length d]] w fun e w' => e = .returned (.bool (M.SameSystem k1 k2 xs ys)) ∧ Below w.heap.size w w' := by
  have HA := Lib.hid hA
  have HB := Lib.hid hB
  have h1 := Lib.hid (fun W hA hB => EqualRule_c A B c d xs ys W hA hB hx hy)
  unfold M.SameSystem
  clear hA hB
  generalize decide (xs = ys) = q at *
  by_cases hk : k1 = k2
  case neg =>
    have hk' : (k1 == k2) = false := by simpa using hk
    rw [decide_eq_false hk]
    clear hk
    go_enter Try.func27, Try.ntmps27
    go_wp2
    go_ret
    exact ⟨rfl, below_two _ _ _⟩
  case pos =>
    subst hk
    rw [decide_eq_true rfl]
    go_enter Try.func27, Try.ntmps27
    go_wp2_with fail
    refine (h1.out _ (HA.out.below (below_two _ _ _)) (HB.out.below (below_two _ _ _))).mono ?_
    rintro e w1 ⟨rfl, hb⟩
    go_wp2_with fail
    go_ret
    exact ⟨rfl, below_alloc2 hb⟩
set_option maxRecDepth 100000 in
set_option maxHeartbeats 2000000 in
theorem spec_SameSystem_c (k1 k2 : Int) (A B : Option Addr) (c d : Nat) (xs ys : List M.Rule) (w : World) (hA : Rd w 2 A xs.length (ruls xs)) (hB : Rd w 2 B ys.length (ruls ys)) (hx : xs.length ≤ 1048576) (hy : ys.length ≤ 1048576) :
    Calls Try.prog 26 #[.agg #[.int .i64 k1, .slice A xs.length c], .agg #[.int .i64 k2, .slice B ys.length d]] w fun e w' => e = .returned (.bool (M.SameSystem k1 k2 xs ys)) ∧ Below w.heap.size w w' := by
  unfold M.SameSystem
  by_cases hk : k1 = k2
  case neg =>
    have hk' : (k1 != k2) = true := by simpa using hk
    rw [decide_eq_false hk]
    clear hk
    go_enter Try.func26, Try.ntmps26
    go_wp2
    go_ret
    exact ⟨rfl, below_two _ _ _⟩
  case pos =>
  subst hk
  rw [decide_eq_true rfl, Bool.true_and]
  by_cases hl : xs.length = ys.length
  case neg =>
    rw [decide_eq_false (show ¬ xs = ys from fun e => hl (by rw [e]))]
    have hl' : ((xs.length : Int) != (ys.length : Int)) = true := by rw [bne_iff_ne]; omega
    go_enter Try.func26, Try.ntmps26
    go_wp2
    go_ret
    exact ⟨rfl, below_two _ _ _⟩
  case pos =>
    have HL := Lib.hid hl
    have HA := Lib.hid hA
    have HB := Lib.hid hB
    obtain ⟨n, hn⟩ : ∃ n, n = ys.length := ⟨_, rfl⟩
    have hn1 : xs.length = n := by omega
    rw [hn1, ← hn]
    have HN := Lib.hid hn
    have HN1 := Lib.hid hn1
    have hn2 : n ≤ 1048576 := by omega
    clear hA hB hn hn1 hl hx hy
    go_enter Try.func26, Try.ntmps26
    go_wp2
    go_loopw [24] (fun i wr => ∃ k : Nat, k ≤ n ∧ i = .int .i64 k ∧ xs.take k = ys.take k ∧ wr.cell? ⟨w.heap.size + 1, 1, none⟩ = some (.slice B n d) ∧ Below w.heap.size w wr) (fun i _ => n - (intOf i).toNat)
    case atStart => exact ⟨0, by omega, rfl, by simp, by simp [go_sem], by repeat (first | exact Below.refl _ _ | refine Below.alloc ?_ (by simp <;> omega) _)⟩
    case round =>
      obtain ⟨k, hk, rfl, ht, hx1, hb⟩ := hrel
      have HT := Lib.hid ht
      have HW := Lib.hid hb
      clear ht hb
      by_cases hlt : k < n
      · obtain ⟨b1, o1, rfl, hz1, hc1, hd1⟩ := (HA.out.below HW.out).ruleAt (k := k) (by have := HN1.out; omega)
        obtain ⟨b2, o2, rfl, hz2, hc2, hd2⟩ := (HB.out.below HW.out).ruleAt (k := k) (by have := HN.out; omega)
        have HE := Lib.hid (fun (h : xs[k].left = ys[k].left ∧ xs[k].right = ys[k].right) => take_eq_succ hz1 hz2 HT.out (rule_ext (x := xs[k]) (y := ys[k]) h.1 h.2))
        have HNE := Lib.hid (fun (h : ¬ (xs[k].left = ys[k].left ∧ xs[k].right = ys[k].right)) => ne_at hz1 hz2 (fun e => h (by rw [e]; exact ⟨rfl, rfl⟩)))
        generalize xs[k] = x at *
        generalize ys[k] = y at *
        obtain ⟨xl, xr⟩ := x
        obtain ⟨yl, yr⟩ := y
        simp only at hc1 hd1 hc2 hd2 HE HNE
        have hx1' := allocKeep1 hx1
        have hcc := allocKeep1 hc2
        have hdd := allocKeep1 hd2
        by_cases hel : xl = yl
        case neg =>
          have hel' : (xl == yl) = false := by simpa using hel
          have HNN := Lib.hid (HNE.out (fun h => hel h.1))
          clear hel HE HNE
          go_wp2
          go_quiet (fail)
          go_wp2
          go_ret
          exact ⟨ret_bool (decide_eq_false HNN.out).symm, below_drewN (HW.out.alloc HW.out.size _) _⟩
        case pos =>
        by_cases her : xr = yr
        case neg =>
          have her' : (xr == yr) = false := by simpa using her
          have HNN := Lib.hid (HNE.out (fun h => her h.2))
          clear her HE HNE
          subst hel
          go_wp2
          go_quiet (fail)
          go_wp2
          go_ret
          exact ⟨ret_bool (decide_eq_false HNN.out).symm, below_drewN (HW.out.alloc HW.out.size _) _⟩
        case pos =>
          have HEE := Lib.hid (HE.out ⟨hel, her⟩)
          clear HE HNE
          subst hel
          subst her
          go_wp2
          go_quiet (fail)
          go_wp2
          go_roundw
          case rel => exact ⟨k + 1, by omega, by go_num, HEE.out, allocKeep1 hx1 _, below_drewN (HW.out.alloc HW.out.size _) _⟩
          case measure => simp [intOf]; omega
      · go_wp2
        go_ret
        exact ⟨ret_bool (decide_eq_true (eq_of_takes HL.out (by have := HN1.out; omega) HT.out)).symm, HW.out⟩

end Go.Proofs.Ytkmhkcfioinpcaa
