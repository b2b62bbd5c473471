/-
  Contracts of FirstStep and LastStep.
  Conditions: at most 2^20 rules, words of at most 2^20 bytes.
-/
import Derived.Test.YtoijojdegohknaaSteps
namespace Go.Proofs.Ytoijojdegohknaa
open Go.RowKit
set_option linter.unusedVariables false

def M.FirstStep (k : Int) (rs : List M.Rule) (l : List UInt8) : M.Step × Bool := M.first (M.StepsOf k rs l)
def M.LastStep (k : Int) (rs : List M.Rule) (l : List UInt8) : M.Step × Bool := M.last (M.StepsOf k rs l)
/-- The two cells of a result after a store. -/
theorem frozenKeep {w w' : World} {b o : Nat} {u : Value} {f : Bool} (hb : Below w.heap.size w w') (hc : w.cell? ⟨b, o, none⟩ = some u) (h : w.frozen? ⟨b, o, none⟩ = f) : w'.frozen? ⟨b, o, none⟩ = f :=
  ((bcell hb).2 _ _ (World.block_lt_of_cell? w _ hc)).trans h
theorem stepsOf_len {k : Int} {rs : List M.Rule} {l : List UInt8} (hl : l.length ≤ 1048576) : (M.StepsOf k rs l).length ≤ 13000000 := by
  unfold M.StepsOf
  split
  · rename_i h
    have h1 := rules12 h
    have h2 := M.to_len rs l l.length
    have h3 : l.length * rs.length ≤ 1048576 * 12 := Nat.mul_le_mul hl h1
    omega
  · simp
theorem steps_pos {zs : List M.Step} (h : zs ≠ []) : 0 < zs.length := by cases zs <;> simp_all
theorem eqStep_t (a b : Int) (w : World) : Calls Try.prog 31 #[.agg #[.int .i64 a, .int .i64 b], .agg #[.int .i64 a, .int .i64 b]] w fun e w' => e = .returned (.bool true) ∧ Below w.heap.size w w' :=
  (eqStep_c a b a b w).mono fun e w' ⟨h, hb⟩ => ⟨by rw [h]; simp, hb⟩
set_option maxRecDepth 100000 in
set_option maxHeartbeats 1000000 in
theorem spec_FirstStep_c (k : Int) (A : Option Addr) (c : Nat) (rs : List M.Rule) (l : List UInt8) (w : World) (hA : Rd w 2 A rs.length (ruls rs)) (hl : rs.length ≤ 1048576) (hs : ∀ r ∈ rs, r.left.length ≤ 1048576 ∧ r.right.length ≤ 1048576) (hll : l.length ≤ 1048576) :
    Calls Try.prog 28 #[.agg #[.int .i64 k, .slice A rs.length c], .string ⟨l.toArray⟩] w fun e w' => e = .returned (.tuple #[.agg #[.int .i64 (M.FirstStep k rs l).1.rule, .int .i64 (M.FirstStep k rs l).1.place], .bool (M.FirstStep k rs l).2]) ∧ Below w.heap.size w w' := by
  unfold M.FirstStep
  have h1 := Lib.hid (fun W hA => spec_StepsOf_c k A c rs l W hA hl hs hll)
  have HA := Lib.hid hA
  have HP := Lib.hid (fun (o p : Obj) => ((Below.refl w.heap.size w).alloc (Nat.le_refl _) o).alloc (by simp) p)
  clear hA hs
  generalize M.StepsOf k rs l = zs at *
  go_enter Try.func28, Try.ntmps28
  go_wp2_with fail
  refine (h1.out _ (HA.out.below (HP.out _ _))).mono ?_
  rintro e w1 ⟨A1, c1, rfl, ho, hb⟩
  have d10 : w1.cell? ⟨w.heap.size + 1, 0, none⟩ = some (.int .i64 0) := cellKeep hb (by simp [go_sem])
  have d11 : w1.cell? ⟨w.heap.size + 1, 1, none⟩ = some (.int .i64 0) := cellKeep hb (by simp [go_sem])
  have f10 : w1.frozen? ⟨w.heap.size + 1, 0, none⟩ = false := ((bcell hb).2 _ _ (by simp)).trans (by simp [go_sem])
  have f11 : w1.frozen? ⟨w.heap.size + 1, 1, none⟩ = false := ((bcell hb).2 _ _ (by simp)).trans (by simp [go_sem])
  have s1 : w.heap.size + 2 ≤ w1.heap.size := by have := hb.size; simp at this; omega
  have HB := Lib.hid (below_alloc2 hb)
  have HO := Lib.hid ho
  clear hb ho
  cases zs with
  | nil =>
    go_wp2_with fail
    refine bodyPost_ret (v := .tuple #[.agg #[.int .i64 0, .int .i64 0], .bool false]) ?_ rfl ⟨rfl, ?_⟩
    · simp [results, Try.results28, go_sem, cell_set_ne, cell_set_eq _ d10, cell_two d11]
    · exact (HB.out.setCell (by simp) _).setCell (by simp) _
  | cons z zs =>
    obtain ⟨b, o, e1, hz, hc1, hc2⟩ := (HO.out.rd).stepAt (k := 0) (by simp)
    subst e1
    have hlen : (z :: zs).length = zs.length + 1 := rfl
    obtain ⟨n, hn⟩ : ∃ n, n = (z :: zs).length := ⟨_, rfl⟩
    have hn1 : 1 ≤ n := by rw [hn]; simp
    have hn2 : ((n : Int) == 0) = false := by rw [beq_eq_false_iff_ne]; omega
    rw [← hn]
    simp only [Nat.zero_mul, Nat.add_zero, List.getElem_cons_zero] at hc1 hc2
    clear hlen hn hz
    obtain ⟨zr, zp⟩ := z
    simp only at hc1 hc2
    go_wp2_with fail
    refine bodyPost_ret (v := .tuple #[.agg #[.int .i64 zr, .int .i64 zp], .bool true]) ?_ rfl ⟨rfl, ?_⟩
    · simp [results, Try.results28, go_sem, cell_set_ne, cell_set_eq _ d10, cell_two d11]
    · exact (HB.out.setCell (by simp) _).setCell (by simp) _
set_option maxRecDepth 100000 in
set_option maxHeartbeats 4000000 in
theorem firstStep_c (k : Int) (A : Option Addr) (c : Nat) (rs : List M.Rule) (l : List UInt8) (w : World) (hA : Rd w 2 A rs.length (ruls rs)) (hl : rs.length ≤ 1048576) (hs : ∀ r ∈ rs, r.left.length ≤ 1048576 ∧ r.right.length ≤ 1048576) (hll : l.length ≤ 1048576) :
    Calls Try.prog 80 #[.agg #[.int .i64 k, .slice A rs.length c], .string ⟨l.toArray⟩] w fun e w' => e = .returned (.tuple #[.agg #[.int .i64 (M.first (M.stepsTo rs l l.length)).1.rule, .int .i64 (M.first (M.stepsTo rs l l.length)).1.place], .bool (M.first (M.stepsTo rs l l.length)).2]) ∧ Below w.heap.size w w' := by
  have HA := Lib.hid hA
  have HS := Lib.hid hs
  obtain ⟨zs, hzs⟩ : ∃ zs, zs = M.first (M.stepsTo rs l l.length) := ⟨_, rfl⟩
  rw [← hzs]
  obtain ⟨⟨zr, zp⟩, zb⟩ := zs
  have HZ := Lib.hid hzs
  clear hzs hA hs
  simp only
  obtain ⟨m, hm⟩ : ∃ m, m = rs.length := ⟨_, rfl⟩
  have HM := Lib.hid hm
  have hmb : m ≤ 1048576 := by omega
  rw [← hm] at HA ⊢
  clear hm
  go_enter Try.func80, Try.ntmps80
  go_wp2_with fail
  obtain ⟨w1, hw1⟩ : ∃ w1 : World, w1 = (w.alloc (.cells #[.int .i64 k, .slice A m c] 26)).alloc (.cells #[.int .i64 0, .int .i64 0] 47) := ⟨_, rfl⟩
  have HW := Lib.hid (show w1.heap.size = w.heap.size + 2 by rw [hw1]; simp)
  have D1 := Lib.hid (show w1.cell? ⟨w.heap.size, 1, none⟩ = some (.slice A m c) by rw [hw1]; simp [go_sem])
  have R0 := Lib.hid (show w1.cell? ⟨w.heap.size + 1, 0, none⟩ = some (.int .i64 0) by rw [hw1]; simp [go_sem])
  have R1 := Lib.hid (show w1.cell? ⟨w.heap.size + 1, 1, none⟩ = some (.int .i64 0) by rw [hw1]; simp [go_sem])
  have F0 := Lib.hid (show w1.frozen? ⟨w.heap.size + 1, 0, none⟩ = false by rw [hw1]; simp [go_sem])
  have F1 := Lib.hid (show w1.frozen? ⟨w.heap.size + 1, 1, none⟩ = false by rw [hw1]; simp [go_sem])
  have HB0 := Lib.hid (show Below w.heap.size w w1 by rw [hw1]; exact ((Below.refl w.heap.size w).alloc (Nat.le_refl _) _).alloc (by simp) _)
  have HA1 := Lib.hid (HA.out.below HB0.out)
  rw [← hw1]
  clear hw1
  go_loopw [6, 11] (fun _ z wr => ∃ i : Nat, i ≤ l.length ∧ z = .int .i64 i ∧ M.stepsTo rs l i = [] ∧ Below w1.heap.size w1 wr) (fun _ z _ => l.length - (intOf z).toNat)
  case atStart => exact ⟨0, by omega, rfl, rfl, Below.refl _ _⟩
  case round =>
    obtain ⟨i, hi, rfl, hi0, hb⟩ := hrel
    have e1 := cellKeep hb D1.out
    have HI := Lib.hid hi0
    have HB := Lib.hid hb
    by_cases hlt : i < l.length
    case neg =>
      obtain rfl : i = l.length := by omega
      have HE := Lib.hid (show zr = 0 ∧ zp = 0 ∧ zb = false by have h1 := HZ.out; rw [HI.out] at h1; simpa [M.first, and_assoc] using h1)
      have d10 := cellKeep hb R0.out
      have d11 := cellKeep hb R1.out
      have f10 := frozenKeep hb R0.out F0.out
      have f11 := frozenKeep hb R1.out F1.out
      clear hi0 hb
      go_wp2_with fail
      refine bodyPost_ret (v := .tuple #[.agg #[.int .i64 0, .int .i64 0], .bool false]) ?_ rfl ⟨by obtain ⟨h1, h2, h3⟩ := HE.out; rw [h1, h2, h3], ?_⟩
      · simp [results, Try.results80, go_sem, cell_set_ne, cell_set_eq _ d10, cell_two d11]
      · exact ((HB0.out.trans (HB.out.mono HB0.out.size)).setCell (by simp) _).setCell (by simp) _
    case pos =>
    have hil : i < l.length := hlt
    clear hi0 hb
    obtain ⟨wo, hwo⟩ : ∃ wo : World, wo = wr := ⟨_, rfl⟩
    rw [← hwo] at HB e1 ⊢
    clear hwo
    go_wp2_with fail
    go_loopw [7, 8, 17] (fun _ _ z wr => ∃ j : Nat, j ≤ m ∧ z = .int .i64 j ∧ M.stepsRow rs l i j = [] ∧ Below w1.heap.size w1 wr) (fun _ _ z _ => m - (intOf z).toNat)
    case atStart => exact ⟨0, by omega, rfl, rfl, by first | exact HB.out | exact HB.out.drew⟩
    case round =>
      clear e1 HB
      obtain ⟨j, hj, rfl, hj0, hb⟩ := hrel
      have e1 := cellKeep hb D1.out
      have HB := Lib.hid hb
      have HJ := Lib.hid hj0
      by_cases hjm : j < m
      case neg =>
        obtain rfl : j = m := by omega
        clear hj0 hb
        go_wp2
        go_roundw
        case rel => exact ⟨i + 1, by omega, by go_num, by rw [M.stepsTo, HI.out, ← HM.out, HJ.out]; rfl, HB.out⟩
        case measure => simp [intOf] <;> omega
      case pos =>
      obtain ⟨b, o, rfl, hz, hc1, hc2⟩ := (HA1.out.below HB.out).ruleAt (k := j) hjm
      have hsz := (HS.out rs[j] (List.getElem_mem hz)).1
      have HIT := Lib.hid (M.hit_at (rs := rs) (l := l) (p := i) hz)
      generalize rs[j] = r at *
      obtain ⟨rl, rr⟩ := r
      simp only at hc1 hc2 hsz HIT
      have HC := Lib.hid (fun W => HasPrefix_c (l.drop i) rl W (by simp; omega) hsz)
      obtain ⟨v, hv⟩ : ∃ v, v = M.pre rl (l.drop i) := ⟨_, rfl⟩
      rw [← hv] at HC HIT
      clear hv
      cases v
      case true =>
        have HE := Lib.hid (show (⟨zr, zp⟩, zb) = ((⟨j, i⟩, true) : M.Step × Bool) from by rw [HZ.out]; exact M.first_hit hil HI.out HJ.out HIT.out)
        have hs1 : w.heap.size + 2 ≤ wr.heap.size := by have h1 := HB.out.size; have h2 := HW.out; omega
        have d10 := cellKeep hb R0.out
        have d11 := cellKeep hb R1.out
        have f10 := frozenKeep hb R0.out F0.out
        have f11 := frozenKeep hb R1.out F1.out
        have p10 := allocKeep1 d10
        have p11 := allocKeep1 d11
        have q10 := fun o n => (show ((wr.alloc o).drewN n).cell? ⟨w.heap.size + 1, 0, none⟩ = some (.int .i64 0) from p10 o)
        have q11 := fun o n => (show ((wr.alloc o).drewN n).cell? ⟨w.heap.size + 1, 1, none⟩ = some (.int .i64 0) from p11 o)
        have g10 := fun o => frozenKeep ((Below.refl _ _).alloc (Nat.le_refl _) o) d10 f10
        have g11 := fun o => frozenKeep ((Below.refl _ _).alloc (Nat.le_refl _) o) d11 f11
        have HB5 := Lib.hid (fun o => (HB0.out.trans (HB.out.mono HB0.out.size)).alloc (Nat.le_trans HB0.out.size HB.out.size) o)
        clear hj0 hb
        go_wp2_with fail
        go_quiet ((go_at_call 103; exact Calls.quiet_of_same (quiet1 (HC.out _))))
        go_wp2_with fail
        refine bodyPost_ret (v := .tuple #[.agg #[.int .i64 j, .int .i64 i], .bool true]) ?_ rfl ⟨by have h1 := HE.out; injection h1 with h1 h2; injection h1 with h1 h3; rw [h1, h2, h3], ?_⟩
        · simp [results, Try.results80, go_sem, cell_set_ne, cell_set_eq _ (q10 _ _), cell_two (q11 _ _)]
        · exact ((below_drewN (HB5.out _) _).setCell (by simp) _).setCell (by simp) _
      case false =>
        have HY := Lib.hid (M.row_no HIT.out)
        clear hj0 hb
        go_wp2_with fail
        go_quiet ((go_at_call 103; exact Calls.quiet_of_same (quiet1 (HC.out _))))
        go_wp2_with fail
        go_roundw
        case rel => exact ⟨j + 1, by omega, by go_num, by rw [HY.out]; exact HJ.out, HB.out.trans ((show Below wr.heap.size wr _ from (by repeat (first | exact Below.refl _ _ | refine Below.alloc ?_ (by simp <;> omega) _ | refine below_drewN ?_ _ | refine Below.drew ?_))).mono HB.out.size)⟩
        case measure => simp [intOf] <;> omega
set_option maxRecDepth 100000 in
set_option maxHeartbeats 1000000 in
theorem impl_FirstStep_c (k : Int) (A : Option Addr) (c : Nat) (rs : List M.Rule) (l : List UInt8) (w : World) (hA : Rd w 2 A rs.length (ruls rs)) (hl : rs.length ≤ 1048576) (hs : ∀ r ∈ rs, r.left.length ≤ 1048576 ∧ r.right.length ≤ 1048576) (hll : l.length ≤ 1048576) :
    Calls Try.prog 30 #[.agg #[.int .i64 k, .slice A rs.length c], .string ⟨l.toArray⟩] w fun e w' => e = .returned (.tuple #[.agg #[.int .i64 (M.FirstStep k rs l).1.rule, .int .i64 (M.FirstStep k rs l).1.place], .bool (M.FirstStep k rs l).2]) ∧ Below w.heap.size w w' := by
  unfold M.FirstStep
  have h1 := Lib.hid (fun W hA => impl_RulesOk_c k A c rs W hA hl hs)
  have h2 := Lib.hid (fun W hA => firstStep_c k A c rs l W hA hl hs hll)
  have HA := Lib.hid hA
  have HP := Lib.hid (fun (o p : Obj) => ((Below.refl w.heap.size w).alloc (Nat.le_refl _) o).alloc (by simp) p)
  clear hA hs
  obtain ⟨x, hx⟩ : ∃ x, x = M.RulesOk k rs := ⟨_, rfl⟩
  rw [← hx] at h1
  cases x
  case false =>
    rw [steps_no hx.symm]
    clear hx
    go_enter Try.func30, Try.ntmps30
    go_wp2_with fail
    refine (h1.out _ (HA.out.below (HP.out _ _))).mono ?_
    rintro e w1 ⟨rfl, hb⟩
    have d10 : w1.cell? ⟨w.heap.size + 1, 0, none⟩ = some (.int .i64 0) := cellKeep hb (by simp [go_sem])
    have d11 : w1.cell? ⟨w.heap.size + 1, 1, none⟩ = some (.int .i64 0) := cellKeep hb (by simp [go_sem])
    have f10 : w1.frozen? ⟨w.heap.size + 1, 0, none⟩ = false := ((bcell hb).2 _ _ (by simp)).trans (by simp [go_sem])
    have f11 : w1.frozen? ⟨w.heap.size + 1, 1, none⟩ = false := ((bcell hb).2 _ _ (by simp)).trans (by simp [go_sem])
    have s1 : w.heap.size + 2 ≤ w1.heap.size := by have := hb.size; simp at this; omega
    have HB := Lib.hid (below_alloc2 hb)
    clear hb
    go_wp2_with fail
    refine bodyPost_ret (v := .tuple #[.agg #[.int .i64 0, .int .i64 0], .bool false]) ?_ rfl ⟨rfl, ?_⟩
    · simp [results, Try.results30, go_sem, cell_set_ne, cell_set_eq _ d10, cell_two d11]
    · exact (HB.out.setCell (by simp) _).setCell (by simp) _
  case true =>
  rw [steps_yes hx.symm]
  clear hx
  generalize M.first (M.stepsTo rs l l.length) = z at *
  obtain ⟨⟨zr, zp⟩, zb⟩ := z
  simp only at h2 ⊢
  go_enter Try.func30, Try.ntmps30
  go_wp2_with fail
  refine (h1.out _ (HA.out.below (HP.out _ _))).mono ?_
  rintro e w1 ⟨rfl, hb⟩
  have d10 : w1.cell? ⟨w.heap.size + 1, 0, none⟩ = some (.int .i64 0) := cellKeep hb (by simp [go_sem])
  have d11 : w1.cell? ⟨w.heap.size + 1, 1, none⟩ = some (.int .i64 0) := cellKeep hb (by simp [go_sem])
  have f10 : w1.frozen? ⟨w.heap.size + 1, 0, none⟩ = false := ((bcell hb).2 _ _ (by simp)).trans (by simp [go_sem])
  have f11 : w1.frozen? ⟨w.heap.size + 1, 1, none⟩ = false := ((bcell hb).2 _ _ (by simp)).trans (by simp [go_sem])
  have s1 : w.heap.size + 2 ≤ w1.heap.size := by have := hb.size; simp at this; omega
  have c10 : w1.cell? ⟨w.heap.size, 0, none⟩ = some (.int .i64 k) := cellKeep hb (by simp [go_sem])
  have c11 : w1.cell? ⟨w.heap.size, 1, none⟩ = some (.slice A rs.length c) := cellKeep hb (by simp [go_sem])
  have HB := Lib.hid (below_alloc2 hb)
  clear hb
  go_wp2_with fail
  refine (h2.out _ (HA.out.below HB.out)).mono ?_
  rintro e w2 ⟨rfl, hb2⟩
  replace f10 := frozenKeep hb2 d10 f10
  replace f11 := frozenKeep hb2 d11 f11
  replace d10 := cellKeep hb2 d10
  replace d11 := cellKeep hb2 d11
  have HB2 := Lib.hid (HB.out.trans (hb2.mono HB.out.size))
  clear hb2 c10 c11
  go_wp2_with fail
  refine bodyPost_ret (v := .tuple #[.agg #[.int .i64 zr, .int .i64 zp], .bool zb]) ?_ rfl ⟨rfl, ?_⟩
  · simp [results, Try.results30, go_sem, cell_set_ne, cell_set_eq _ d10, cell_two d11]
  · exact (HB2.out.setCell (by simp) _).setCell (by simp) _
set_option maxRecDepth 100000 in
set_option maxHeartbeats 4000000 in
theorem lastStep_c (k : Int) (A : Option Addr) (c : Nat) (rs : List M.Rule) (l : List UInt8) (w : World) (hA : Rd w 2 A rs.length (ruls rs)) (hl : rs.length ≤ 1048576) (hs : ∀ r ∈ rs, r.left.length ≤ 1048576 ∧ r.right.length ≤ 1048576) (hll : l.length ≤ 1048576) :
    Calls Try.prog 81 #[.agg #[.int .i64 k, .slice A rs.length c], .string ⟨l.toArray⟩] w fun e w' => e = .returned (.tuple #[.agg #[.int .i64 (M.last (M.stepsTo rs l l.length)).1.rule, .int .i64 (M.last (M.stepsTo rs l l.length)).1.place], .bool (M.last (M.stepsTo rs l l.length)).2]) ∧ Below w.heap.size w w' := by
  have HA := Lib.hid hA
  have HS := Lib.hid hs
  obtain ⟨zs, hzs⟩ : ∃ zs, zs = M.last (M.stepsTo rs l l.length) := ⟨_, rfl⟩
  rw [← hzs]
  obtain ⟨⟨zr, zp⟩, zb⟩ := zs
  have HZ := Lib.hid hzs
  clear hzs hA hs
  simp only
  obtain ⟨m, hm⟩ : ∃ m, m = rs.length := ⟨_, rfl⟩
  have HM := Lib.hid hm
  have hmb : m ≤ 1048576 := by omega
  rw [← hm] at HA ⊢
  clear hm
  go_enter Try.func81, Try.ntmps81
  go_wp2_with fail
  obtain ⟨w1, hw1⟩ : ∃ w1 : World, w1 = (w.alloc (.cells #[.int .i64 k, .slice A m c] 26)).alloc (.cells #[.int .i64 0, .int .i64 0] 47) := ⟨_, rfl⟩
  have HW := Lib.hid (show w1.heap.size = w.heap.size + 2 by rw [hw1]; simp)
  have D1 := Lib.hid (show w1.cell? ⟨w.heap.size, 1, none⟩ = some (.slice A m c) by rw [hw1]; simp [go_sem])
  have R0 := Lib.hid (show w1.cell? ⟨w.heap.size + 1, 0, none⟩ = some (.int .i64 0) by rw [hw1]; simp [go_sem])
  have R1 := Lib.hid (show w1.cell? ⟨w.heap.size + 1, 1, none⟩ = some (.int .i64 0) by rw [hw1]; simp [go_sem])
  have F0 := Lib.hid (show w1.frozen? ⟨w.heap.size + 1, 0, none⟩ = false by rw [hw1]; simp [go_sem])
  have F1 := Lib.hid (show w1.frozen? ⟨w.heap.size + 1, 1, none⟩ = false by rw [hw1]; simp [go_sem])
  have HB0 := Lib.hid (show Below w.heap.size w w1 by rw [hw1]; exact ((Below.refl w.heap.size w).alloc (Nat.le_refl _) _).alloc (by simp) _)
  have HA1 := Lib.hid (HA.out.below HB0.out)
  rw [← hw1]
  clear hw1
  go_loopw [6] (fun z wr => ∃ i : Nat, i ≤ l.length ∧ z = .int .i64 ((i : Int) - 1) ∧ M.last (M.stepsTo rs l i) = (⟨zr, zp⟩, zb) ∧ Below w1.heap.size w1 wr) (fun z _ => (intOf z + 1).toNat)
  case atStart => exact ⟨l.length, by omega, by go_num, HZ.out.symm, Below.refl _ _⟩
  case round =>
    obtain ⟨i1, hi, rfl, hi0, hb⟩ := hrel
    have e1 := cellKeep hb D1.out
    have HI := Lib.hid hi0
    have HB := Lib.hid hb
    by_cases hlt : 0 < i1
    case neg =>
      obtain rfl : i1 = 0 := by omega
      have HE := Lib.hid (show zr = 0 ∧ zp = 0 ∧ zb = false by have h1 := HI.out; simpa [M.last, M.lastStep, M.stepsTo, eq_comm, and_assoc] using h1)
      have d10 := cellKeep hb R0.out
      have d11 := cellKeep hb R1.out
      have f10 := frozenKeep hb R0.out F0.out
      have f11 := frozenKeep hb R1.out F1.out
      clear hi0 hb
      go_wp2_with fail
      refine bodyPost_ret (v := .tuple #[.agg #[.int .i64 0, .int .i64 0], .bool false]) ?_ rfl ⟨by obtain ⟨h1, h2, h3⟩ := HE.out; rw [h1, h2, h3], ?_⟩
      · simp [results, Try.results81, go_sem, cell_set_ne, cell_set_eq _ d10, cell_two d11]
      · exact ((HB0.out.trans (HB.out.mono HB0.out.size)).setCell (by simp) _).setCell (by simp) _
    case pos =>
    obtain ⟨i, rfl⟩ : ∃ i, i1 = i + 1 := ⟨i1 - 1, by omega⟩
    have hii : (((i + 1 : Nat) : Int) - 1) = (i : Int) := by omega
    rw [hii]
    have hil : i < l.length := by omega
    clear hi0 hb
    obtain ⟨wo, hwo⟩ : ∃ wo : World, wo = wr := ⟨_, rfl⟩
    rw [← hwo] at HB e1 ⊢
    clear hwo
    go_wp2_with fail
    go_loopw [7, 8, 19] (fun _ _ z wr => ∃ j : Nat, j ≤ m ∧ z = .int .i64 j ∧ M.stepsRow rs l i j = [] ∧ Below w1.heap.size w1 wr) (fun _ _ z _ => m - (intOf z).toNat)
    case atStart => exact ⟨0, by omega, rfl, rfl, by first | exact HB.out | exact HB.out.drew⟩
    case round =>
      clear e1 HB
      obtain ⟨j, hj, rfl, hj0, hb⟩ := hrel
      have e1 := cellKeep hb D1.out
      have HB := Lib.hid hb
      have HJ := Lib.hid hj0
      by_cases hjm : j < m
      case neg =>
        obtain rfl : j = m := by omega
        clear hj0 hb
        go_wp2
        go_roundw
        case rel => exact ⟨i, by omega, by go_num, by have h1 := HI.out; rwa [M.last_no (by rw [← HM.out]; exact HJ.out)] at h1, HB.out⟩
        case measure => simp [intOf] <;> omega
      case pos =>
      obtain ⟨b, o, rfl, hz, hc1, hc2⟩ := (HA1.out.below HB.out).ruleAt (k := j) hjm
      have hsz := (HS.out rs[j] (List.getElem_mem hz)).1
      have HIT := Lib.hid (M.hit_at (rs := rs) (l := l) (p := i) hz)
      generalize rs[j] = r at *
      obtain ⟨rl, rr⟩ := r
      simp only at hc1 hc2 hsz HIT
      have HC := Lib.hid (fun W => HasPrefix_c (l.drop i) rl W (by simp; omega) hsz)
      obtain ⟨v, hv⟩ : ∃ v, v = M.pre rl (l.drop i) := ⟨_, rfl⟩
      rw [← hv] at HC HIT
      clear hv
      cases v
      case true =>
        have HE := Lib.hid (show (⟨zr, zp⟩, zb) = ((⟨j, i⟩, true) : M.Step × Bool) from by have h1 := HI.out; rw [M.last_hit HJ.out HIT.out] at h1; exact h1.symm)
        have hs1 : w.heap.size + 2 ≤ wr.heap.size := by have h1 := HB.out.size; have h2 := HW.out; omega
        have d10 := cellKeep hb R0.out
        have d11 := cellKeep hb R1.out
        have f10 := frozenKeep hb R0.out F0.out
        have f11 := frozenKeep hb R1.out F1.out
        have p10 := allocKeep1 d10
        have p11 := allocKeep1 d11
        have q10 := fun o n => (show ((wr.alloc o).drewN n).cell? ⟨w.heap.size + 1, 0, none⟩ = some (.int .i64 0) from p10 o)
        have q11 := fun o n => (show ((wr.alloc o).drewN n).cell? ⟨w.heap.size + 1, 1, none⟩ = some (.int .i64 0) from p11 o)
        have g10 := fun o => frozenKeep ((Below.refl _ _).alloc (Nat.le_refl _) o) d10 f10
        have g11 := fun o => frozenKeep ((Below.refl _ _).alloc (Nat.le_refl _) o) d11 f11
        have HB5 := Lib.hid (fun o => (HB0.out.trans (HB.out.mono HB0.out.size)).alloc (Nat.le_trans HB0.out.size HB.out.size) o)
        clear hj0 hb
        go_wp2_with fail
        go_quiet ((go_at_call 103; exact Calls.quiet_of_same (quiet1 (HC.out _))))
        go_wp2_with fail
        refine bodyPost_ret (v := .tuple #[.agg #[.int .i64 j, .int .i64 i], .bool true]) ?_ rfl ⟨by have h1 := HE.out; injection h1 with h1 h2; injection h1 with h1 h3; rw [h1, h2, h3], ?_⟩
        · simp [results, Try.results81, go_sem, cell_set_ne, cell_set_eq _ (q10 _ _), cell_two (q11 _ _)]
        · exact ((below_drewN (HB5.out _) _).setCell (by simp) _).setCell (by simp) _
      case false =>
        have HY := Lib.hid (M.row_no HIT.out)
        clear hj0 hb
        go_wp2_with fail
        go_quiet ((go_at_call 103; exact Calls.quiet_of_same (quiet1 (HC.out _))))
        go_wp2_with fail
        go_roundw
        case rel => exact ⟨j + 1, by omega, by go_num, by rw [HY.out]; exact HJ.out, HB.out.trans ((show Below wr.heap.size wr _ from (by repeat (first | exact Below.refl _ _ | refine Below.alloc ?_ (by simp <;> omega) _ | refine below_drewN ?_ _ | refine Below.drew ?_))).mono HB.out.size)⟩
        case measure => simp [intOf] <;> omega
set_option maxRecDepth 100000 in
set_option maxHeartbeats 1000000 in
theorem impl_LastStep_c (k : Int) (A : Option Addr) (c : Nat) (rs : List M.Rule) (l : List UInt8) (w : World) (hA : Rd w 2 A rs.length (ruls rs)) (hl : rs.length ≤ 1048576) (hs : ∀ r ∈ rs, r.left.length ≤ 1048576 ∧ r.right.length ≤ 1048576) (hll : l.length ≤ 1048576) :
    Calls Try.prog 34 #[.agg #[.int .i64 k, .slice A rs.length c], .string ⟨l.toArray⟩] w fun e w' => e = .returned (.tuple #[.agg #[.int .i64 (M.LastStep k rs l).1.rule, .int .i64 (M.LastStep k rs l).1.place], .bool (M.LastStep k rs l).2]) ∧ Below w.heap.size w w' := by
  unfold M.LastStep
  have h1 := Lib.hid (fun W hA => impl_RulesOk_c k A c rs W hA hl hs)
  have h2 := Lib.hid (fun W hA => lastStep_c k A c rs l W hA hl hs hll)
  have HA := Lib.hid hA
  have HP := Lib.hid (fun (o p : Obj) => ((Below.refl w.heap.size w).alloc (Nat.le_refl _) o).alloc (by simp) p)
  clear hA hs
  obtain ⟨x, hx⟩ : ∃ x, x = M.RulesOk k rs := ⟨_, rfl⟩
  rw [← hx] at h1
  cases x
  case false =>
    rw [steps_no hx.symm]
    clear hx
    go_enter Try.func34, Try.ntmps34
    go_wp2_with fail
    refine (h1.out _ (HA.out.below (HP.out _ _))).mono ?_
    rintro e w1 ⟨rfl, hb⟩
    have d10 : w1.cell? ⟨w.heap.size + 1, 0, none⟩ = some (.int .i64 0) := cellKeep hb (by simp [go_sem])
    have d11 : w1.cell? ⟨w.heap.size + 1, 1, none⟩ = some (.int .i64 0) := cellKeep hb (by simp [go_sem])
    have f10 : w1.frozen? ⟨w.heap.size + 1, 0, none⟩ = false := ((bcell hb).2 _ _ (by simp)).trans (by simp [go_sem])
    have f11 : w1.frozen? ⟨w.heap.size + 1, 1, none⟩ = false := ((bcell hb).2 _ _ (by simp)).trans (by simp [go_sem])
    have s1 : w.heap.size + 2 ≤ w1.heap.size := by have := hb.size; simp at this; omega
    have HB := Lib.hid (below_alloc2 hb)
    clear hb
    go_wp2_with fail
    refine bodyPost_ret (v := .tuple #[.agg #[.int .i64 0, .int .i64 0], .bool false]) ?_ rfl ⟨rfl, ?_⟩
    · simp [results, Try.results34, go_sem, cell_set_ne, cell_set_eq _ d10, cell_two d11]
    · exact (HB.out.setCell (by simp) _).setCell (by simp) _
  case true =>
  rw [steps_yes hx.symm]
  clear hx
  generalize M.last (M.stepsTo rs l l.length) = z at *
  obtain ⟨⟨zr, zp⟩, zb⟩ := z
  simp only at h2 ⊢
  go_enter Try.func34, Try.ntmps34
  go_wp2_with fail
  refine (h1.out _ (HA.out.below (HP.out _ _))).mono ?_
  rintro e w1 ⟨rfl, hb⟩
  have d10 : w1.cell? ⟨w.heap.size + 1, 0, none⟩ = some (.int .i64 0) := cellKeep hb (by simp [go_sem])
  have d11 : w1.cell? ⟨w.heap.size + 1, 1, none⟩ = some (.int .i64 0) := cellKeep hb (by simp [go_sem])
  have f10 : w1.frozen? ⟨w.heap.size + 1, 0, none⟩ = false := ((bcell hb).2 _ _ (by simp)).trans (by simp [go_sem])
  have f11 : w1.frozen? ⟨w.heap.size + 1, 1, none⟩ = false := ((bcell hb).2 _ _ (by simp)).trans (by simp [go_sem])
  have s1 : w.heap.size + 2 ≤ w1.heap.size := by have := hb.size; simp at this; omega
  have c10 : w1.cell? ⟨w.heap.size, 0, none⟩ = some (.int .i64 k) := cellKeep hb (by simp [go_sem])
  have c11 : w1.cell? ⟨w.heap.size, 1, none⟩ = some (.slice A rs.length c) := cellKeep hb (by simp [go_sem])
  have HB := Lib.hid (below_alloc2 hb)
  clear hb
  go_wp2_with fail
  refine (h2.out _ (HA.out.below HB.out)).mono ?_
  rintro e w2 ⟨rfl, hb2⟩
  replace f10 := frozenKeep hb2 d10 f10
  replace f11 := frozenKeep hb2 d11 f11
  replace d10 := cellKeep hb2 d10
  replace d11 := cellKeep hb2 d11
  have HB2 := Lib.hid (HB.out.trans (hb2.mono HB.out.size))
  clear hb2 c10 c11
  go_wp2_with fail
  refine bodyPost_ret (v := .tuple #[.agg #[.int .i64 zr, .int .i64 zp], .bool zb]) ?_ rfl ⟨rfl, ?_⟩
  · simp [results, Try.results34, go_sem, cell_set_ne, cell_set_eq _ d10, cell_two d11]
  · exact (HB2.out.setCell (by simp) _).setCell (by simp) _
set_option maxRecDepth 100000 in
set_option maxHeartbeats 4000000 in
theorem spec_LastStep_c (k : Int) (A : Option Addr) (c : Nat) (rs : List M.Rule) (l : List UInt8) (w : World) (hA : Rd w 2 A rs.length (ruls rs)) (hl : rs.length ≤ 1048576) (hs : ∀ r ∈ rs, r.left.length ≤ 1048576 ∧ r.right.length ≤ 1048576) (hll : l.length ≤ 1048576) :
    Calls Try.prog 33 #[.agg #[.int .i64 k, .slice A rs.length c], .string ⟨l.toArray⟩] w fun e w' => e = .returned (.tuple #[.agg #[.int .i64 (M.LastStep k rs l).1.rule, .int .i64 (M.LastStep k rs l).1.place], .bool (M.LastStep k rs l).2]) ∧ Below w.heap.size w w' := by
  unfold M.LastStep
  have h1 := Lib.hid (fun W hA => spec_StepsOf_c k A c rs l W hA hl hs hll)
  have HA := Lib.hid hA
  have hzl := stepsOf_len (k := k) (rs := rs) hll
  clear hA hs
  generalize M.StepsOf k rs l = zs at *
  obtain ⟨zz, hzz⟩ : ∃ zz, zz = M.last zs := ⟨_, rfl⟩
  rw [← hzz]
  obtain ⟨⟨zr, zp⟩, zb⟩ := zz
  have HZ := Lib.hid hzz
  simp only
  obtain ⟨n, hn⟩ : ∃ n, n = zs.length := ⟨_, rfl⟩
  have HN := Lib.hid hn
  have hnb : n ≤ 13000000 := by omega
  rw [← hn] at h1
  clear hzz hn hzl
  go_enter Try.func33, Try.ntmps33
  go_wp2_with fail
  refine (h1.out _ (HA.out.below (by repeat (first | exact Below.refl _ _ | refine Below.setCell ?_ (by simp <;> omega) _ | refine Below.alloc ?_ (by simp <;> omega) _)))).mono ?_
  rintro e w1 ⟨A1, c1, rfl, ho, hb⟩
  have HB0 := Lib.hid (below_then (a := w) (by repeat (first | exact Below.refl _ _ | refine Below.setCell ?_ (by simp <;> omega) _ | refine Below.alloc ?_ (by simp <;> omega) _)) hb)
  have R0 := Lib.hid (show w1.cell? ⟨w.heap.size + 1, 0, none⟩ = some (.int .i64 0) from cellKeep hb (by simp [go_sem]))
  have R1 := Lib.hid (show w1.cell? ⟨w.heap.size + 1, 1, none⟩ = some (.int .i64 0) from cellKeep hb (by simp [go_sem]))
  have F0 := Lib.hid (show w1.frozen? ⟨w.heap.size + 1, 0, none⟩ = false from ((bcell hb).2 _ _ (by simp)).trans (by simp [go_sem]))
  have F1 := Lib.hid (show w1.frozen? ⟨w.heap.size + 1, 1, none⟩ = false from ((bcell hb).2 _ _ (by simp)).trans (by simp [go_sem]))
  have B0 := Lib.hid (show w1.cell? ⟨w.heap.size + 1 + 1, 0, none⟩ = some (.int .i64 0) from cellKeep hb (by simp [go_sem]))
  have B1 := Lib.hid (show w1.cell? ⟨w.heap.size + 1 + 1, 1, none⟩ = some (.int .i64 0) from cellKeep hb (by simp [go_sem]))
  have G0 := Lib.hid (show w1.frozen? ⟨w.heap.size + 1 + 1, 0, none⟩ = false from ((bcell hb).2 _ _ (by simp)).trans (by simp [go_sem]))
  have G1 := Lib.hid (show w1.frozen? ⟨w.heap.size + 1 + 1, 1, none⟩ = false from ((bcell hb).2 _ _ (by simp)).trans (by simp [go_sem]))
  have HS1 := Lib.hid (show w.heap.size + 3 ≤ w1.heap.size by have h := hb.size; (try simp at h); omega)
  have HO := Lib.hid (ho.mono (base' := w.heap.size + 3) (by simp <;> omega))
  clear hb ho
  have n00 := allocKeep1 R0.out
  go_wp2_with fail
  clear n00
  go_loopw [7, 15] (fun f z wr => ∃ (j : Nat) (br bp : Int) (bf : Bool), j ≤ n ∧ z = .int .i64 j ∧ f = .bool bf ∧ M.lastStep (zs.drop j) (⟨br, bp⟩, bf) = (⟨zr, zp⟩, zb) ∧ (wr.cell? ⟨w.heap.size + 1, 0, none⟩ = some (.int .i64 0) ∧ wr.cell? ⟨w.heap.size + 1, 1, none⟩ = some (.int .i64 0) ∧ wr.frozen? ⟨w.heap.size + 1, 0, none⟩ = false ∧ wr.frozen? ⟨w.heap.size + 1, 1, none⟩ = false) ∧ (wr.cell? ⟨w.heap.size + 1 + 1, 0, none⟩ = some (.int .i64 br) ∧ wr.cell? ⟨w.heap.size + 1 + 1, 1, none⟩ = some (.int .i64 bp) ∧ wr.frozen? ⟨w.heap.size + 1 + 1, 0, none⟩ = false ∧ wr.frozen? ⟨w.heap.size + 1 + 1, 1, none⟩ = false) ∧ Own wr (w.heap.size + 3) 2 A1 n (steps_ zs) ∧ Below w.heap.size w wr ∧ w.heap.size + 3 ≤ wr.heap.size) (fun _ z _ => n - (intOf z).toNat)
  case atStart => exact ⟨0, 0, 0, false, by omega, rfl, rfl, by rw [List.drop_zero, HZ.out]; rfl, ⟨R0.out, R1.out, F0.out, F1.out⟩, ⟨B0.out, B1.out, G0.out, G1.out⟩, by have h1 := HO.out; rw [HN.out]; rw [← HN.out]; exact h1, HB0.out, HS1.out⟩
  case round =>
    obtain ⟨j, br, bp, bf, hj, rfl, rfl, hf, ⟨r0, r1, f0, f1⟩, ⟨b0, b1, g0, g1⟩, hown, hb, hsz⟩ := hrel
    have HF := Lib.hid hf
    have HO := Lib.hid hown
    have HB := Lib.hid hb
    have HSZ := Lib.hid hsz
    clear hf hown hb
    by_cases hlt : j < n
    case neg =>
      have HE := Lib.hid (show br = zr ∧ bp = zp ∧ bf = zb by have h := HF.out; rw [List.drop_of_length_le (by have := HN.out; omega)] at h; simpa [M.lastStep, and_assoc] using h)
      go_wp2_with fail
      refine bodyPost_ret (v := .tuple #[.agg #[.int .i64 br, .int .i64 bp], .bool bf]) ?_ rfl ⟨by obtain ⟨h1, h2, h3⟩ := HE.out; rw [h1, h2, h3], ?_⟩
      · simp [results, Try.results33, go_sem, cell_set_ne, cell_set_eq _ r0, cell_two r1]
      · exact (HB.out.setCell (by simp) _).setCell (by simp) _
    case pos =>
    obtain ⟨b, o, rfl, hz, hc1, hc2⟩ := (HO.out.rd).stepAt (k := j) hlt
    have HF2 := Lib.hid (show M.lastStep (zs.drop (j + 1)) (if bf = false ∨ bp < zs[j].place then (zs[j], true) else (⟨br, bp⟩, bf)) = (⟨zr, zp⟩, zb) by have h := HF.out; rw [List.drop_eq_getElem_cons hz, M.lastStep] at h; exact h)
    generalize zs[j] = y at *
    obtain ⟨yr, yp⟩ := y
    simp only at hc1 hc2 HF2
    have a0 := allocKeep1 b0
    have a1 := allocKeep1 b1
    have p0 := fun x => frozenKeep ((Below.refl _ _).alloc (Nat.le_refl _) x) b0 g0
    have p1 := fun x => frozenKeep ((Below.refl _ _).alloc (Nat.le_refl _) x) b1 g1
    have q0 := fun x => frozenKeep ((Below.refl _ _).alloc (Nat.le_refl _) x) r0 f0
    have q1 := fun x => frozenKeep ((Below.refl _ _).alloc (Nat.le_refl _) x) r1 f1
    have s0 := allocKeep1 r0
    have s1 := allocKeep1 r1
    have HA2 := Lib.hid (fun x => HO.out.below ((Below.refl _ _).alloc (Nat.le_refl _) x))
    have HB2 := Lib.hid (fun x => HB.out.alloc (by omega) x)
    by_cases hp : bf = false ∨ bp < yp
    case pos =>
      rw [if_pos hp] at HF2
      clear HF r0 r1 f0 f1 g0 g1
      cases bf
      case false =>
        clear hp
        go_wp2_with fail
        go_roundw
        case rel => exact ⟨j + 1, yr, yp, true, by omega, by go_num, rfl, HF2.out, ⟨by simp [cell_set_ne, s0], by simp [cell_set_ne, s1], by simpa using q0 _, by simpa using q1 _⟩, ⟨by simp [cell_set_ne, cell_set_eq _ (a0 _)], cell_two (a1 _) _ _, by simpa using p0 _, by simpa using p1 _⟩, ((HA2.out _).setLow (by omega)).setLow (by omega), ((HB2.out _).setCell (by simp <;> omega) _).setCell (by simp <;> omega) _, by simp; omega⟩
        case measure => simp [intOf] <;> omega
      case true =>
        have hp' : bp < yp := by simpa using hp
        clear hp
        go_wp2_with fail
        go_roundw
        case rel => exact ⟨j + 1, yr, yp, true, by omega, by go_num, rfl, HF2.out, ⟨by simp [cell_set_ne, s0], by simp [cell_set_ne, s1], by simpa using q0 _, by simpa using q1 _⟩, ⟨by simp [cell_set_ne, cell_set_eq _ (a0 _)], cell_two (a1 _) _ _, by simpa using p0 _, by simpa using p1 _⟩, ((HA2.out _).setLow (by omega)).setLow (by omega), ((HB2.out _).setCell (by simp <;> omega) _).setCell (by simp <;> omega) _, by simp; omega⟩
        case measure => simp [intOf] <;> omega
    case neg =>
      rw [if_neg hp] at HF2
      have hbf : bf = true := by cases bf <;> simp_all
      subst hbf
      have hp' : ¬ bp < yp := by simpa using hp
      clear HF hp r0 r1 f0 f1 g0 g1
      go_wp2_with fail
      go_roundw
      case rel => exact ⟨j + 1, br, bp, true, by omega, by go_num, rfl, HF2.out, ⟨s0 _, s1 _, q0 _, q1 _⟩, ⟨a0 _, a1 _, p0 _, p1 _⟩, HA2.out _, HB2.out _, by simp; omega⟩
      case measure => simp [intOf] <;> omega

end Go.Proofs.Ytoijojdegohknaa
