/-
  The law FnExactSameSystem returns true for every input, and leaves its arguments as they were.
  Conditions: none.
-/
import Derived.Test.YtkmhkcfioinpcaaOpen
import Derived.Test.YtkmhkcfioinpcaaSame
import Derived.Test.YtkmhkcfioinpcaaOpen2
namespace Go.Proofs.Ytkmhkcfioinpcaa.lawExactSameSystem
open Go.ChangeShapes Go.WideShapes Go.ChangeAt Go.RowKit
set_option linter.unusedVariables false

set_option maxRecDepth 100000 in
set_option maxHeartbeats 4000000 in
theorem walk (k1 : Int) (A : Option Addr) (c : Nat) (rs : List M.Rule) (k2 : Int) (B0 : Option Addr) (d : Nat) (ts : List M.Rule) (w : World) (hr : (-9223372036854775808 ≤ k1 ∧ k1 ≤ 9223372036854775807) ∧ rs.length ≤ 9223372036854775807 ∧ Rd w 2 A rs.length (ruls rs) ∧ ∀ r ∈ rs, r.left.length ≤ 9223372036854775807 ∧ r.right.length ≤ 9223372036854775807) (ht : (-9223372036854775808 ≤ k2 ∧ k2 ≤ 9223372036854775807) ∧ ts.length ≤ 9223372036854775807 ∧ Rd w 2 B0 ts.length (ruls ts) ∧ ∀ r ∈ ts, r.left.length ≤ 9223372036854775807 ∧ r.right.length ≤ 9223372036854775807) :
    Calls Try.prog 7 #[.agg #[.int .i64 k1, .slice A rs.length c], .agg #[.int .i64 k2, .slice B0 ts.length d]] w fun e w' => e = .returned (.bool true) ∧ Below w.heap.size w w' := by
  obtain ⟨hk, hl, hA, hs⟩ := hr
  obtain ⟨hk2, hl2, hB, hs2⟩ := ht
  have RA := Lib.hid hA
  have RB := Lib.hid hB
  have h1 := Lib.hid (fun W h => szSystem_c k1 A c rs 1048576 W h hl hs (by omega) (by omega))
  by_cases hz : M.szRules rs 1048576 < 0
  case pos =>
    rw [if_pos hz] at h1
    clear hs hA hz hB hs2
    go_enter Try.func7, Try.ntmps7
    go_wp2_with fail
    refine (h1.out _ (RA.out.below (by repeat (first | exact Below.refl _ _ | refine Below.setCell ?_ (by simp) _ | refine Below.alloc ?_ (by simp <;> omega) _ | refine below_drewN ?_ _ | refine Below.drew ?_)))).mono ?_
    rintro e w1 ⟨rfl, hb⟩
    have B := below_then (a := w) (by repeat (first | exact Below.refl _ _ | refine Below.setCell ?_ (by simp) _ | refine Below.alloc ?_ (by simp <;> omega) _ | refine below_drewN ?_ _ | refine Below.drew ?_)) hb
    have q0 : w1.cell? ⟨w.heap.size, 0, none⟩ = some (.int .i64 k1) := cellKeep hb (by simp [go_sem])
    have q1 : w1.cell? ⟨w.heap.size, 1, none⟩ = some (.slice A rs.length c) := cellKeep hb (by simp [go_sem])
    have r0 : w1.cell? ⟨w.heap.size + 1, 0, none⟩ = some (.int .i64 k2) := cellKeep hb (by simp [go_sem])
    have r1 : w1.cell? ⟨w.heap.size + 1, 1, none⟩ = some (.slice B0 ts.length d) := cellKeep hb (by simp [go_sem])
    replace RA := Lib.hid (RA.out.below B)
    replace RB := Lib.hid (RB.out.below B)
    have T := Lib.hid B
    clear hb B
    go_wp2_with fail
    go_ret
    exact ⟨rfl, T.out.trans ((show Below w1.heap.size w1 _ from (by repeat (first | exact Below.refl _ _ | refine Below.setCell ?_ (by simp) _ | refine Below.alloc ?_ (by simp <;> omega) _ | refine below_drewN ?_ _ | refine Below.drew ?_))).mono T.out.size)⟩
  case neg =>
    rw [if_neg hz] at h1
    obtain ⟨hl3, _, hle⟩ := M.szRules_ok hz
    have hl4 : rs.length ≤ 1048576 := by omega
    generalize M.szRules rs 1048576 = z at *
    have h0 := Lib.hid (fun W h => szSystem_c k2 B0 d ts z W h hl2 hs2 hle (by omega))
    have hg : ¬ z < 0 := hz
    clear hs hA hz hB hs2
    by_cases hz2 : M.szRules ts z < 0
    case pos =>
      rw [if_pos hz2] at h0
      clear hz2
      go_enter Try.func7, Try.ntmps7
      go_wp2_with fail
      refine (h1.out _ (RA.out.below (by repeat (first | exact Below.refl _ _ | refine Below.setCell ?_ (by simp) _ | refine Below.alloc ?_ (by simp <;> omega) _ | refine below_drewN ?_ _ | refine Below.drew ?_)))).mono ?_
      rintro e w1 ⟨rfl, hb⟩
      have B := below_then (a := w) (by repeat (first | exact Below.refl _ _ | refine Below.setCell ?_ (by simp) _ | refine Below.alloc ?_ (by simp <;> omega) _ | refine below_drewN ?_ _ | refine Below.drew ?_)) hb
      have q0 : w1.cell? ⟨w.heap.size, 0, none⟩ = some (.int .i64 k1) := cellKeep hb (by simp [go_sem])
      have q1 : w1.cell? ⟨w.heap.size, 1, none⟩ = some (.slice A rs.length c) := cellKeep hb (by simp [go_sem])
      have r0 : w1.cell? ⟨w.heap.size + 1, 0, none⟩ = some (.int .i64 k2) := cellKeep hb (by simp [go_sem])
      have r1 : w1.cell? ⟨w.heap.size + 1, 1, none⟩ = some (.slice B0 ts.length d) := cellKeep hb (by simp [go_sem])
      replace RA := Lib.hid (RA.out.below B)
      replace RB := Lib.hid (RB.out.below B)
      have T := Lib.hid B
      clear hb B
      go_wp2_with fail
      refine (h0.out _ (RB.out.below (by repeat (first | exact Below.refl _ _ | refine Below.setCell ?_ (by simp) _ | refine Below.alloc ?_ (by simp <;> omega) _ | refine below_drewN ?_ _ | refine Below.drew ?_)))).mono ?_
      rintro e w2 ⟨rfl, hb⟩
      have B := below_then (a := w1) (by repeat (first | exact Below.refl _ _ | refine Below.setCell ?_ (by simp) _ | refine Below.alloc ?_ (by simp <;> omega) _ | refine below_drewN ?_ _ | refine Below.drew ?_)) hb
      replace q0 : w2.cell? ⟨w.heap.size, 0, none⟩ = some (.int .i64 k1) := cellKeep B q0
      replace q1 : w2.cell? ⟨w.heap.size, 1, none⟩ = some (.slice A rs.length c) := cellKeep B q1
      replace r0 : w2.cell? ⟨w.heap.size + 1, 0, none⟩ = some (.int .i64 k2) := cellKeep B r0
      replace r1 : w2.cell? ⟨w.heap.size + 1, 1, none⟩ = some (.slice B0 ts.length d) := cellKeep B r1
      replace RA := Lib.hid (RA.out.below B)
      replace RB := Lib.hid (RB.out.below B)
      replace T := Lib.hid (T.out.trans (B.mono T.out.size))
      clear hb B
      go_wp2_with fail
      go_ret
      exact ⟨rfl, T.out.trans ((show Below w2.heap.size w2 _ from (by repeat (first | exact Below.refl _ _ | refine Below.setCell ?_ (by simp) _ | refine Below.alloc ?_ (by simp <;> omega) _ | refine below_drewN ?_ _ | refine Below.drew ?_))).mono T.out.size)⟩
    case neg =>
      rw [if_neg hz2] at h0
      obtain ⟨hl5, _, _⟩ := M.szRules_ok hz2
      have hl6 : ts.length ≤ 1048576 := by omega
      generalize M.szRules ts z = y at *
      have h2 := Lib.hid (fun W h => toSystem_c k1 A c rs W h hl4)
      have h5 := Lib.hid (fun W h => toSystem_c k2 B0 d ts W h hl6)
      have h3 := Lib.hid (fun W A c B d h h' => spec_SameSystem_c k1 k2 A B c d rs ts W h h' hl4 hl6)
      have h4 := Lib.hid (fun W A c B d h h' => impl_SameSystem_c k1 k2 A B c d rs ts W h h' hl4 hl6)
      generalize M.SameSystem k1 k2 rs ts = v at *
      cases v
      all_goals
        go_enter Try.func7, Try.ntmps7
        go_wp2_with fail
        refine (h1.out _ (RA.out.below (by repeat (first | exact Below.refl _ _ | refine Below.setCell ?_ (by simp) _ | refine Below.alloc ?_ (by simp <;> omega) _ | refine below_drewN ?_ _ | refine Below.drew ?_)))).mono ?_
        rintro e w1 ⟨rfl, hb⟩
        have B := below_then (a := w) (by repeat (first | exact Below.refl _ _ | refine Below.setCell ?_ (by simp) _ | refine Below.alloc ?_ (by simp <;> omega) _ | refine below_drewN ?_ _ | refine Below.drew ?_)) hb
        have q0 : w1.cell? ⟨w.heap.size, 0, none⟩ = some (.int .i64 k1) := cellKeep hb (by simp [go_sem])
        have q1 : w1.cell? ⟨w.heap.size, 1, none⟩ = some (.slice A rs.length c) := cellKeep hb (by simp [go_sem])
        have r0 : w1.cell? ⟨w.heap.size + 1, 0, none⟩ = some (.int .i64 k2) := cellKeep hb (by simp [go_sem])
        have r1 : w1.cell? ⟨w.heap.size + 1, 1, none⟩ = some (.slice B0 ts.length d) := cellKeep hb (by simp [go_sem])
        replace RA := Lib.hid (RA.out.below B)
        replace RB := Lib.hid (RB.out.below B)
        have T := Lib.hid B
        clear hb B
        go_wp2_with fail
        refine (h0.out _ (RB.out.below (by repeat (first | exact Below.refl _ _ | refine Below.setCell ?_ (by simp) _ | refine Below.alloc ?_ (by simp <;> omega) _ | refine below_drewN ?_ _ | refine Below.drew ?_)))).mono ?_
        rintro e w2 ⟨rfl, hb⟩
        have B := below_then (a := w1) (by repeat (first | exact Below.refl _ _ | refine Below.setCell ?_ (by simp) _ | refine Below.alloc ?_ (by simp <;> omega) _ | refine below_drewN ?_ _ | refine Below.drew ?_)) hb
        replace q0 : w2.cell? ⟨w.heap.size, 0, none⟩ = some (.int .i64 k1) := cellKeep B q0
        replace q1 : w2.cell? ⟨w.heap.size, 1, none⟩ = some (.slice A rs.length c) := cellKeep B q1
        replace r0 : w2.cell? ⟨w.heap.size + 1, 0, none⟩ = some (.int .i64 k2) := cellKeep B r0
        replace r1 : w2.cell? ⟨w.heap.size + 1, 1, none⟩ = some (.slice B0 ts.length d) := cellKeep B r1
        replace RA := Lib.hid (RA.out.below B)
        replace RB := Lib.hid (RB.out.below B)
        replace T := Lib.hid (T.out.trans (B.mono T.out.size))
        clear hb B
        go_wp2_with fail
        go_region_held3 (fun w' => w'.cell? ⟨w.heap.size, 0, none⟩ = some (.int .i64 k1) ∧ w'.cell? ⟨w.heap.size, 1, none⟩ = some (.slice A rs.length c) ∧ w'.cell? ⟨w.heap.size + 1, 0, none⟩ = some (.int .i64 k2) ∧ w'.cell? ⟨w.heap.size + 1, 1, none⟩ = some (.slice B0 ts.length d) ∧ Below w2.heap.size w2 w') (first | exact ⟨q0, q1, r0, r1, (by repeat (first | exact Below.refl _ _ | refine Below.setCell ?_ (by simp) _ | refine Below.alloc ?_ (by simp <;> omega) _ | refine below_drewN ?_ _ | refine Below.drew ?_))⟩ | assumption | exact held4 (by assumption) hbS | exact held4 (by assumption) hbc) (first | (go_simp; go_at_call 21; refine (toSystem_c _ _ _ _ _ (by first | exact RA.out.below (held4_below (by assumption)) | exact RB.out.below (held4_below (by assumption))) (by omega)).mono ?_; rintro e waS ⟨_, _, rfl, hownS, hbS⟩) | (go_simp; go_at_call 26; refine (h3.out _ _ _ _ _ (by first | exact Own.rd (by assumption) | exact (Own.rd (by assumption)).below (by assumption)) (by first | exact Own.rd (by assumption) | exact (Own.rd (by assumption)).below (by assumption))).mono ?_; rintro e w3 ⟨rfl, hbc⟩))
        all_goals
          have hS : w3.cell? ⟨w.heap.size, 0, none⟩ = some (.int .i64 k1) ∧ w3.cell? ⟨w.heap.size, 1, none⟩ = some (.slice A rs.length c) ∧ w3.cell? ⟨w.heap.size + 1, 0, none⟩ = some (.int .i64 k2) ∧ w3.cell? ⟨w.heap.size + 1, 1, none⟩ = some (.slice B0 ts.length d) ∧ Below w2.heap.size w2 w3 := by assumption
          have B := held4_below hS
          replace q0 : w3.cell? ⟨w.heap.size, 0, none⟩ = some (.int .i64 k1) := cellKeep B q0
          replace q1 : w3.cell? ⟨w.heap.size, 1, none⟩ = some (.slice A rs.length c) := cellKeep B q1
          replace r0 : w3.cell? ⟨w.heap.size + 1, 0, none⟩ = some (.int .i64 k2) := cellKeep B r0
          replace r1 : w3.cell? ⟨w.heap.size + 1, 1, none⟩ = some (.slice B0 ts.length d) := cellKeep B r1
          replace RA := Lib.hid (RA.out.below B)
          replace RB := Lib.hid (RB.out.below B)
          replace T := Lib.hid (T.out.trans (B.mono T.out.size))
          clear hS B
          go_wp2_with fail
          refine (h2.out _ (RA.out.below (by repeat (first | exact Below.refl _ _ | refine Below.setCell ?_ (by simp) _ | refine Below.alloc ?_ (by simp <;> omega) _ | refine below_drewN ?_ _ | refine Below.drew ?_)))).mono ?_
          rintro e w4 ⟨AX, cX, rfl, hown, hb⟩
          have B := below_then (a := w3) (by repeat (first | exact Below.refl _ _ | refine Below.setCell ?_ (by simp) _ | refine Below.alloc ?_ (by simp <;> omega) _ | refine below_drewN ?_ _ | refine Below.drew ?_)) hb
          replace q0 : w4.cell? ⟨w.heap.size, 0, none⟩ = some (.int .i64 k1) := cellKeep B q0
          replace q1 : w4.cell? ⟨w.heap.size, 1, none⟩ = some (.slice A rs.length c) := cellKeep B q1
          replace r0 : w4.cell? ⟨w.heap.size + 1, 0, none⟩ = some (.int .i64 k2) := cellKeep B r0
          replace r1 : w4.cell? ⟨w.heap.size + 1, 1, none⟩ = some (.slice B0 ts.length d) := cellKeep B r1
          replace RA := Lib.hid (RA.out.below B)
          replace RB := Lib.hid (RB.out.below B)
          replace T := Lib.hid (T.out.trans (B.mono T.out.size))
          clear hb B
          have RX := Lib.hid hown.rd
          clear hown
          have q0_1 := allocKeep1 q0
          have q1_1 := allocKeep1 q1
          have r0_1 := allocKeep1 r0
          have r1_1 := allocKeep1 r1
          go_wp2_with fail
          clear q0_1 q1_1 r0_1 r1_1
          refine (h5.out _ (RB.out.below (by repeat (first | exact Below.refl _ _ | refine Below.setCell ?_ (by simp) _ | refine Below.alloc ?_ (by simp <;> omega) _ | refine below_drewN ?_ _ | refine Below.drew ?_)))).mono ?_
          rintro e w5 ⟨AY, cY, rfl, hown, hb⟩
          have B := below_then (a := w4) (by repeat (first | exact Below.refl _ _ | refine Below.setCell ?_ (by simp) _ | refine Below.alloc ?_ (by simp <;> omega) _ | refine below_drewN ?_ _ | refine Below.drew ?_)) hb
          replace q0 : w5.cell? ⟨w.heap.size, 0, none⟩ = some (.int .i64 k1) := cellKeep B q0
          replace q1 : w5.cell? ⟨w.heap.size, 1, none⟩ = some (.slice A rs.length c) := cellKeep B q1
          replace r0 : w5.cell? ⟨w.heap.size + 1, 0, none⟩ = some (.int .i64 k2) := cellKeep B r0
          replace r1 : w5.cell? ⟨w.heap.size + 1, 1, none⟩ = some (.slice B0 ts.length d) := cellKeep B r1
          have x0 : w5.cell? ⟨w4.heap.size, 0, none⟩ = some (.int .i64 k1) := cellKeep hb (by simp [go_sem])
          have x1 : w5.cell? ⟨w4.heap.size, 1, none⟩ = some (.slice AX rs.length cX) := cellKeep hb (by simp [go_sem])
          replace RA := Lib.hid (RA.out.below B)
          replace RB := Lib.hid (RB.out.below B)
          replace RX := Lib.hid (RX.out.below B)
          replace T := Lib.hid (T.out.trans (B.mono T.out.size))
          clear hb B
          have RY := Lib.hid hown.rd
          clear hown
          have q0_1 := allocKeep1 q0
          have q1_1 := allocKeep1 q1
          have r0_1 := allocKeep1 r0
          have r1_1 := allocKeep1 r1
          have x0_1 := allocKeep1 x0
          have x1_1 := allocKeep1 x1
          go_wp2_with fail
          clear q0_1 q1_1 r0_1 r1_1 x0_1 x1_1
          refine (h4.out _ _ _ _ _ (RX.out.below (by repeat (first | exact Below.refl _ _ | refine Below.setCell ?_ (by simp) _ | refine Below.alloc ?_ (by simp <;> omega) _ | refine below_drewN ?_ _ | refine Below.drew ?_))) (RY.out.below (by repeat (first | exact Below.refl _ _ | refine Below.setCell ?_ (by simp) _ | refine Below.alloc ?_ (by simp <;> omega) _ | refine below_drewN ?_ _ | refine Below.drew ?_)))).mono ?_
          rintro e w6 ⟨rfl, hb⟩
          have B := below_then (a := w5) (by repeat (first | exact Below.refl _ _ | refine Below.setCell ?_ (by simp) _ | refine Below.alloc ?_ (by simp <;> omega) _ | refine below_drewN ?_ _ | refine Below.drew ?_)) hb
          replace q0 : w6.cell? ⟨w.heap.size, 0, none⟩ = some (.int .i64 k1) := cellKeep B q0
          replace q1 : w6.cell? ⟨w.heap.size, 1, none⟩ = some (.slice A rs.length c) := cellKeep B q1
          replace r0 : w6.cell? ⟨w.heap.size + 1, 0, none⟩ = some (.int .i64 k2) := cellKeep B r0
          replace r1 : w6.cell? ⟨w.heap.size + 1, 1, none⟩ = some (.slice B0 ts.length d) := cellKeep B r1
          replace x0 : w6.cell? ⟨w4.heap.size, 0, none⟩ = some (.int .i64 k1) := cellKeep B x0
          replace x1 : w6.cell? ⟨w4.heap.size, 1, none⟩ = some (.slice AX rs.length cX) := cellKeep B x1
          have y0 : w6.cell? ⟨w5.heap.size, 0, none⟩ = some (.int .i64 k2) := cellKeep hb (by simp [go_sem])
          have y1 : w6.cell? ⟨w5.heap.size, 1, none⟩ = some (.slice AY ts.length cY) := cellKeep hb (by simp [go_sem])
          replace RA := Lib.hid (RA.out.below B)
          replace RB := Lib.hid (RB.out.below B)
          replace RX := Lib.hid (RX.out.below B)
          replace RY := Lib.hid (RY.out.below B)
          replace T := Lib.hid (T.out.trans (B.mono T.out.size))
          clear hb B
          go_wp2_with fail
          go_region_held3 (fun w' => w'.cell? ⟨w.heap.size, 0, none⟩ = some (.int .i64 k1) ∧ w'.cell? ⟨w.heap.size, 1, none⟩ = some (.slice A rs.length c) ∧ w'.cell? ⟨w4.heap.size, 0, none⟩ = some (.int .i64 k1) ∧ w'.cell? ⟨w4.heap.size, 1, none⟩ = some (.slice AX rs.length cX) ∧ Below w6.heap.size w6 w') (first | exact ⟨q0, q1, x0, x1, (by repeat (first | exact Below.refl _ _ | refine Below.setCell ?_ (by simp) _ | refine Below.alloc ?_ (by simp <;> omega) _ | refine below_drewN ?_ _ | refine Below.drew ?_))⟩ | assumption | exact held4 (by assumption) hbU | exact held4 (by assumption) hbc) (first | (go_simp; go_at_call 21; refine (h2.out _ (RA.out.below (held4_below (by assumption)))).mono ?_; rintro e waU ⟨AU, cU, rfl, hownU, hbU⟩) | (go_simp; go_at_call 23; refine (eqSystem_t _ _ _ _ _ _ _ (RX.out.below (held4_below (by assumption))) hownU.rd (by omega)).mono ?_; rintro e w7 ⟨rfl, hbc⟩))
          all_goals
            have hS : w7.cell? ⟨w.heap.size, 0, none⟩ = some (.int .i64 k1) ∧ w7.cell? ⟨w.heap.size, 1, none⟩ = some (.slice A rs.length c) ∧ w7.cell? ⟨w4.heap.size, 0, none⟩ = some (.int .i64 k1) ∧ w7.cell? ⟨w4.heap.size, 1, none⟩ = some (.slice AX rs.length cX) ∧ Below w6.heap.size w6 w7 := by assumption
            have B := held4_below hS
            replace q0 : w7.cell? ⟨w.heap.size, 0, none⟩ = some (.int .i64 k1) := cellKeep B q0
            replace q1 : w7.cell? ⟨w.heap.size, 1, none⟩ = some (.slice A rs.length c) := cellKeep B q1
            replace r0 : w7.cell? ⟨w.heap.size + 1, 0, none⟩ = some (.int .i64 k2) := cellKeep B r0
            replace r1 : w7.cell? ⟨w.heap.size + 1, 1, none⟩ = some (.slice B0 ts.length d) := cellKeep B r1
            replace x0 : w7.cell? ⟨w4.heap.size, 0, none⟩ = some (.int .i64 k1) := cellKeep B x0
            replace x1 : w7.cell? ⟨w4.heap.size, 1, none⟩ = some (.slice AX rs.length cX) := cellKeep B x1
            replace y0 : w7.cell? ⟨w5.heap.size, 0, none⟩ = some (.int .i64 k2) := cellKeep B y0
            replace y1 : w7.cell? ⟨w5.heap.size, 1, none⟩ = some (.slice AY ts.length cY) := cellKeep B y1
            replace RA := Lib.hid (RA.out.below B)
            replace RB := Lib.hid (RB.out.below B)
            replace RX := Lib.hid (RX.out.below B)
            replace RY := Lib.hid (RY.out.below B)
            replace T := Lib.hid (T.out.trans (B.mono T.out.size))
            clear hS B
            go_wp2_with fail
            go_region_held3 (fun w' => w'.cell? ⟨w.heap.size + 1, 0, none⟩ = some (.int .i64 k2) ∧ w'.cell? ⟨w.heap.size + 1, 1, none⟩ = some (.slice B0 ts.length d) ∧ w'.cell? ⟨w5.heap.size, 0, none⟩ = some (.int .i64 k2) ∧ w'.cell? ⟨w5.heap.size, 1, none⟩ = some (.slice AY ts.length cY) ∧ Below w7.heap.size w7 w') (first | exact ⟨r0, r1, y0, y1, (by repeat (first | exact Below.refl _ _ | refine Below.setCell ?_ (by simp) _ | refine Below.alloc ?_ (by simp <;> omega) _ | refine below_drewN ?_ _ | refine Below.drew ?_))⟩ | assumption | exact held4 (by assumption) hbV | exact held4 (by assumption) hbc) (first | (go_simp; go_at_call 21; refine (h5.out _ (RB.out.below (held4_below (by assumption)))).mono ?_; rintro e waV ⟨AV, cV, rfl, hownV, hbV⟩) | (go_simp; go_at_call 23; refine (eqSystem_t _ _ _ _ _ _ _ (RY.out.below (held4_below (by assumption))) hownV.rd (by omega)).mono ?_; rintro e w8 ⟨rfl, hbc⟩))
            all_goals
              have hS : w8.cell? ⟨w.heap.size + 1, 0, none⟩ = some (.int .i64 k2) ∧ w8.cell? ⟨w.heap.size + 1, 1, none⟩ = some (.slice B0 ts.length d) ∧ w8.cell? ⟨w5.heap.size, 0, none⟩ = some (.int .i64 k2) ∧ w8.cell? ⟨w5.heap.size, 1, none⟩ = some (.slice AY ts.length cY) ∧ Below w7.heap.size w7 w8 := by assumption
              have B := held4_below hS
              replace q0 : w8.cell? ⟨w.heap.size, 0, none⟩ = some (.int .i64 k1) := cellKeep B q0
              replace q1 : w8.cell? ⟨w.heap.size, 1, none⟩ = some (.slice A rs.length c) := cellKeep B q1
              replace r0 : w8.cell? ⟨w.heap.size + 1, 0, none⟩ = some (.int .i64 k2) := cellKeep B r0
              replace r1 : w8.cell? ⟨w.heap.size + 1, 1, none⟩ = some (.slice B0 ts.length d) := cellKeep B r1
              replace x0 : w8.cell? ⟨w4.heap.size, 0, none⟩ = some (.int .i64 k1) := cellKeep B x0
              replace x1 : w8.cell? ⟨w4.heap.size, 1, none⟩ = some (.slice AX rs.length cX) := cellKeep B x1
              replace y0 : w8.cell? ⟨w5.heap.size, 0, none⟩ = some (.int .i64 k2) := cellKeep B y0
              replace y1 : w8.cell? ⟨w5.heap.size, 1, none⟩ = some (.slice AY ts.length cY) := cellKeep B y1
              replace RA := Lib.hid (RA.out.below B)
              replace RB := Lib.hid (RB.out.below B)
              replace RX := Lib.hid (RX.out.below B)
              replace RY := Lib.hid (RY.out.below B)
              replace T := Lib.hid (T.out.trans (B.mono T.out.size))
              clear hS B
              go_wp2_with fail
              go_ret
              exact ⟨rfl, T.out.trans ((show Below w8.heap.size w8 _ from (by repeat (first | exact Below.refl _ _ | refine Below.setCell ?_ (by simp) _ | refine Below.alloc ?_ (by simp <;> omega) _ | refine below_drewN ?_ _ | refine Below.drew ?_))).mono T.out.size)⟩

set_option maxRecDepth 100000 in
theorem lifted (os : Os) (started : os.Started) (H : Type) (enc : TypeId × Value → H) :
    ReturnsInHanded {} Try.checked os 7 .any (Rows.fnExactSameSystemSpec.pre6 enc Try.prog Try.f7 Rows.fnExactSameSystemRow.domain false) (Rows.fnExactSameSystemSpec.post enc Try.prog Try.f7 false true false false) := by
  refine returnsInHanded_of_change (C := Try.checked) Try.own started (by kernel_rfl) Try.func7
    (ChangeSpec.witness6 (enc := enc) (C := Try.checked) false ⟨#[], #[.agg #[.int .i64 0, .slice none 0 0], .agg #[.int .i64 0, .slice none 0 0]], []⟩ 8 (by kernel_rfl) (by kernel_rfl) (by kernel_rfl) (by kernel_rfl)) ?_
  intro W base args ds gs before hval0 hW hcnd _
  have hval : ∀ (j : Nat) t v, Try.f7.params[j]? = some t → args[j]? = some v → Value.okWide Try.prog W .any base t v := hval0
  have hW' := hW
  have hlt : ∀ x ∈ before, x.block < W.heap.size := fun x hx => hW.lt x hx
  obtain ⟨p, q, hA0, hV, rfl, hfz, hnd⟩ := hW
  have hA : DataW.TrodAll enc Try.prog W 0 (fun _ => true) true Try.f7.params.toList args.toList ds p := hA0
  rw [Try.params7] at hA hval
  obtain ⟨v0, v1, d0, d1, p0, p1, rfl, rfl, rfl, h0, h1⟩ := trodAll_two hA
  clear hA0 hval0 hfz hnd
  obtain ⟨k0, A0, c0, rs0, rfl, hr0⟩ := openSystem (hval 0 35 v0 rfl rfl) h0
  obtain ⟨k1, A1, c1, rs1, rfl, hr1⟩ := openSystem (hval 1 35 v1 rfl rfl) h1
  refine (walk k0 A0 c0 rs0 k1 A1 c1 rs1 W hr0 hr1).mono fun e W' ⟨he, hg⟩ => ?_
  subst he
  exact ⟨_, rfl, lawPost Try.laidOut (by kernel_rfl) (by kernel_rfl) Try.boolType rfl rfl hW' hg⟩

theorem proved : Rows.FnExactSameSystemSaid :=
  OpenClaim.holds_of_wide 7 Try.f7 rfl rfl rfl rfl rfl rfl rfl ⟨rfl, rfl, rfl, rfl, rfl⟩ rfl rfl rfl rfl rfl (by kernel_rfl) Try.func7 (by kernel_rfl)
    (of_decide_eq_true (by kernel_rfl)) (by unfold Func.isWrapper; first | (rw [if_pos (by decide +kernel)]; kernel_rfl) | (rw [if_neg (by decide +kernel)]; exact ⟨rfl, rfl⟩))
    (fun os started H enc _ => lifted os started H enc)
#print axioms proved
end Go.Proofs.Ytkmhkcfioinpcaa.lawExactSameSystem
