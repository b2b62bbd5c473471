/-
  The law FnExactSidesOf returns true for every input, and leaves its arguments as they were.
  Conditions: none.
-/
import Derived.Test.YtoijojdegohknaaOpen
import Derived.Test.YtoijojdegohknaaSidesOf
import Derived.Test.YtoijojdegohknaaRecPair
namespace Go.Proofs.Ytoijojdegohknaa.lawExactSidesOf
open Go.ChangeShapes Go.WideShapes Go.ChangeAt Go.RowKit
set_option linter.unusedVariables false

set_option maxRecDepth 100000 in
set_option maxHeartbeats 4000000 in
theorem walk (k : Int) (A : Option Addr) (c : Nat) (rs : List M.Rule) (x : M.Pair) (w : World) (hr : (-9223372036854775808 ≤ k ∧ k ≤ 9223372036854775807) ∧ rs.length ≤ 9223372036854775807 ∧ Rd w 2 A rs.length (ruls rs) ∧ ∀ r ∈ rs, r.left.length ≤ 9223372036854775807 ∧ r.right.length ≤ 9223372036854775807) (hx : x.word.length ≤ 9223372036854775807) :
    Calls Try.prog 11 #[.agg #[.int .i64 k, .slice A rs.length c], .agg #[.string ⟨x.word.toArray⟩, .int .i64 x.r1, .int .i64 x.p1, .int .i64 x.r2, .int .i64 x.p2]] w fun e w' => e = .returned (.bool true) ∧ Below w.heap.size w w' := by
  obtain ⟨hk, hl, hA, hs⟩ := hr
  have RA := Lib.hid hA
  obtain ⟨l, ar, ap, br, bp⟩ := x
  simp only at hx ⊢
  have h1 := Lib.hid (fun W h => szSystem_c k A c rs 1048576 W h hl hs (by omega) (by omega))
  by_cases hz : M.szRules rs 1048576 < 0
  case pos =>
    rw [if_pos hz] at h1
    clear hs hA hz
    go_enter Try.func11, Try.ntmps11
    go_wp2_with fail
    refine (h1.out _ (RA.out.below (by repeat (first | exact Below.refl _ _ | refine Below.setCell ?_ (by simp) _ | refine Below.alloc ?_ (by simp <;> omega) _ | refine below_drewN ?_ _ | refine Below.drew ?_)))).mono ?_
    rintro e w1 ⟨rfl, hb⟩
    have B := below_then (a := w) (by repeat (first | exact Below.refl _ _ | refine Below.setCell ?_ (by simp) _ | refine Below.alloc ?_ (by simp <;> omega) _ | refine below_drewN ?_ _ | refine Below.drew ?_)) hb
    have q0 : w1.cell? ⟨w.heap.size, 0, none⟩ = some (.int .i64 k) := cellKeep hb (by simp [go_sem])
    have q1 : w1.cell? ⟨w.heap.size, 1, none⟩ = some (.slice A rs.length c) := cellKeep hb (by simp [go_sem])
    have p0 : w1.cell? ⟨w.heap.size + 1, 0, none⟩ = some (.string ⟨l.toArray⟩) := cellKeep hb (by simp [go_sem])
    have p1 : w1.cell? ⟨w.heap.size + 1, 1, none⟩ = some (.int .i64 ar) := cellKeep hb (by simp [go_sem])
    have p2 : w1.cell? ⟨w.heap.size + 1, 2, none⟩ = some (.int .i64 ap) := cellKeep hb (by simp [go_sem])
    have p3 : w1.cell? ⟨w.heap.size + 1, 3, none⟩ = some (.int .i64 br) := cellKeep hb (by simp [go_sem])
    have p4 : w1.cell? ⟨w.heap.size + 1, 4, none⟩ = some (.int .i64 bp) := cellKeep hb (by simp [go_sem])
    replace RA := Lib.hid (RA.out.below B)
    have T := Lib.hid B
    clear hb B
    go_wp2_with fail
    go_ret
    exact ⟨rfl, T.out.trans ((show Below w1.heap.size w1 _ from (by repeat (first | exact Below.refl _ _ | refine Below.setCell ?_ (by simp) _ | refine Below.alloc ?_ (by simp <;> omega) _ | refine below_drewN ?_ _ | refine Below.drew ?_))).mono T.out.size)⟩
  case neg =>
    rw [if_neg hz] at h1
    obtain ⟨hl2, hs2, hle⟩ := M.szRules_ok hz
    have hl3 : rs.length ≤ 1048576 := by omega
    have hs3 : ∀ r ∈ rs, r.left.length ≤ 1048576 ∧ r.right.length ≤ 1048576 := fun r hr => by have := hs2 r hr; omega
    generalize M.szRules rs 1048576 = z at *
    have hg : ¬ z < 0 := hz
    have h0 := Lib.hid (fun W => szPair_c l ar ap br bp z W hx hle (by omega))
    clear hs hA hs2
    by_cases hz2 : z - (l.length : Int) < 0
    case pos =>
      rw [if_pos hz2] at h0
      clear hz2 hs3
      go_enter Try.func11, Try.ntmps11
      go_wp2_with fail
      refine (h1.out _ (RA.out.below (by repeat (first | exact Below.refl _ _ | refine Below.setCell ?_ (by simp) _ | refine Below.alloc ?_ (by simp <;> omega) _ | refine below_drewN ?_ _ | refine Below.drew ?_)))).mono ?_
      rintro e w1 ⟨rfl, hb⟩
      have B := below_then (a := w) (by repeat (first | exact Below.refl _ _ | refine Below.setCell ?_ (by simp) _ | refine Below.alloc ?_ (by simp <;> omega) _ | refine below_drewN ?_ _ | refine Below.drew ?_)) hb
      have q0 : w1.cell? ⟨w.heap.size, 0, none⟩ = some (.int .i64 k) := cellKeep hb (by simp [go_sem])
      have q1 : w1.cell? ⟨w.heap.size, 1, none⟩ = some (.slice A rs.length c) := cellKeep hb (by simp [go_sem])
      have p0 : w1.cell? ⟨w.heap.size + 1, 0, none⟩ = some (.string ⟨l.toArray⟩) := cellKeep hb (by simp [go_sem])
      have p1 : w1.cell? ⟨w.heap.size + 1, 1, none⟩ = some (.int .i64 ar) := cellKeep hb (by simp [go_sem])
      have p2 : w1.cell? ⟨w.heap.size + 1, 2, none⟩ = some (.int .i64 ap) := cellKeep hb (by simp [go_sem])
      have p3 : w1.cell? ⟨w.heap.size + 1, 3, none⟩ = some (.int .i64 br) := cellKeep hb (by simp [go_sem])
      have p4 : w1.cell? ⟨w.heap.size + 1, 4, none⟩ = some (.int .i64 bp) := cellKeep hb (by simp [go_sem])
      replace RA := Lib.hid (RA.out.below B)
      have T := Lib.hid B
      clear hb B
      go_wp2_with fail
      refine (h0.out _).mono ?_
      rintro e w2 ⟨rfl, hb⟩
      have B := below_then (a := w1) (by repeat (first | exact Below.refl _ _ | refine Below.setCell ?_ (by simp) _ | refine Below.alloc ?_ (by simp <;> omega) _ | refine below_drewN ?_ _ | refine Below.drew ?_)) hb
      replace q0 : w2.cell? ⟨w.heap.size, 0, none⟩ = some (.int .i64 k) := cellKeep B q0
      replace q1 : w2.cell? ⟨w.heap.size, 1, none⟩ = some (.slice A rs.length c) := cellKeep B q1
      replace p0 : w2.cell? ⟨w.heap.size + 1, 0, none⟩ = some (.string ⟨l.toArray⟩) := cellKeep B p0
      replace p1 : w2.cell? ⟨w.heap.size + 1, 1, none⟩ = some (.int .i64 ar) := cellKeep B p1
      replace p2 : w2.cell? ⟨w.heap.size + 1, 2, none⟩ = some (.int .i64 ap) := cellKeep B p2
      replace p3 : w2.cell? ⟨w.heap.size + 1, 3, none⟩ = some (.int .i64 br) := cellKeep B p3
      replace p4 : w2.cell? ⟨w.heap.size + 1, 4, none⟩ = some (.int .i64 bp) := cellKeep B p4
      replace RA := Lib.hid (RA.out.below B)
      replace T := Lib.hid (T.out.trans (B.mono T.out.size))
      clear hb B
      go_wp2_with fail
      go_ret
      exact ⟨rfl, T.out.trans ((show Below w2.heap.size w2 _ from (by repeat (first | exact Below.refl _ _ | refine Below.setCell ?_ (by simp) _ | refine Below.alloc ?_ (by simp <;> omega) _ | refine below_drewN ?_ _ | refine Below.drew ?_))).mono T.out.size)⟩
    case neg =>
      rw [if_neg hz2] at h0
      have hll : l.length ≤ 1048576 := by omega
      obtain ⟨y, hyy⟩ : ∃ y, y = z - (l.length : Int) := ⟨_, rfl⟩
      rw [← hyy] at h0 hz2
      clear hyy
      have h2 := Lib.hid (fun W h => toSystem_c k A c rs W h hl3)
      have h5 := Lib.hid (fun W => toPair_c l ar ap br bp W)
      have h3 := Lib.hid (fun W A c h => spec_SidesOf_c k A c rs l ar ap br bp W h hl3 hs3 hll)
      have h4 := Lib.hid (fun W A c h => impl_SidesOf_c k A c rs l ar ap br bp W h hl3 hs3 hll)
      clear hs3
      generalize M.SidesOf k rs l ⟨ar, ap⟩ ⟨br, bp⟩ = v at *
      obtain ⟨zu, zv, zb⟩ := v
      simp only at h3 h4
      cases zb
      all_goals
        go_enter Try.func11, Try.ntmps11
        go_wp2_with fail
        refine (h1.out _ (RA.out.below (by repeat (first | exact Below.refl _ _ | refine Below.setCell ?_ (by simp) _ | refine Below.alloc ?_ (by simp <;> omega) _ | refine below_drewN ?_ _ | refine Below.drew ?_)))).mono ?_
        rintro e w1 ⟨rfl, hb⟩
        have B := below_then (a := w) (by repeat (first | exact Below.refl _ _ | refine Below.setCell ?_ (by simp) _ | refine Below.alloc ?_ (by simp <;> omega) _ | refine below_drewN ?_ _ | refine Below.drew ?_)) hb
        have q0 : w1.cell? ⟨w.heap.size, 0, none⟩ = some (.int .i64 k) := cellKeep hb (by simp [go_sem])
        have q1 : w1.cell? ⟨w.heap.size, 1, none⟩ = some (.slice A rs.length c) := cellKeep hb (by simp [go_sem])
        have p0 : w1.cell? ⟨w.heap.size + 1, 0, none⟩ = some (.string ⟨l.toArray⟩) := cellKeep hb (by simp [go_sem])
        have p1 : w1.cell? ⟨w.heap.size + 1, 1, none⟩ = some (.int .i64 ar) := cellKeep hb (by simp [go_sem])
        have p2 : w1.cell? ⟨w.heap.size + 1, 2, none⟩ = some (.int .i64 ap) := cellKeep hb (by simp [go_sem])
        have p3 : w1.cell? ⟨w.heap.size + 1, 3, none⟩ = some (.int .i64 br) := cellKeep hb (by simp [go_sem])
        have p4 : w1.cell? ⟨w.heap.size + 1, 4, none⟩ = some (.int .i64 bp) := cellKeep hb (by simp [go_sem])
        replace RA := Lib.hid (RA.out.below B)
        have T := Lib.hid B
        clear hb B
        go_wp2_with fail
        refine (h0.out _).mono ?_
        rintro e w2 ⟨rfl, hb⟩
        have B := below_then (a := w1) (by repeat (first | exact Below.refl _ _ | refine Below.setCell ?_ (by simp) _ | refine Below.alloc ?_ (by simp <;> omega) _ | refine below_drewN ?_ _ | refine Below.drew ?_)) hb
        replace q0 : w2.cell? ⟨w.heap.size, 0, none⟩ = some (.int .i64 k) := cellKeep B q0
        replace q1 : w2.cell? ⟨w.heap.size, 1, none⟩ = some (.slice A rs.length c) := cellKeep B q1
        replace p0 : w2.cell? ⟨w.heap.size + 1, 0, none⟩ = some (.string ⟨l.toArray⟩) := cellKeep B p0
        replace p1 : w2.cell? ⟨w.heap.size + 1, 1, none⟩ = some (.int .i64 ar) := cellKeep B p1
        replace p2 : w2.cell? ⟨w.heap.size + 1, 2, none⟩ = some (.int .i64 ap) := cellKeep B p2
        replace p3 : w2.cell? ⟨w.heap.size + 1, 3, none⟩ = some (.int .i64 br) := cellKeep B p3
        replace p4 : w2.cell? ⟨w.heap.size + 1, 4, none⟩ = some (.int .i64 bp) := cellKeep B p4
        replace RA := Lib.hid (RA.out.below B)
        replace T := Lib.hid (T.out.trans (B.mono T.out.size))
        clear hb B
        go_wp2_with fail
        go_region_held3 (fun w' => w'.cell? ⟨w.heap.size, 0, none⟩ = some (.int .i64 k) ∧ w'.cell? ⟨w.heap.size, 1, none⟩ = some (.slice A rs.length c) ∧ w'.cell? ⟨w.heap.size + 1, 0, none⟩ = some (.string ⟨l.toArray⟩) ∧ w'.cell? ⟨w.heap.size + 1, 1, none⟩ = some (.int .i64 ar) ∧ w'.cell? ⟨w.heap.size + 1, 2, none⟩ = some (.int .i64 ap) ∧ w'.cell? ⟨w.heap.size + 1, 3, none⟩ = some (.int .i64 br) ∧ w'.cell? ⟨w.heap.size + 1, 4, none⟩ = some (.int .i64 bp) ∧ Below w2.heap.size w2 w') (first | exact ⟨q0, q1, p0, p1, p2, p3, p4, (by repeat (first | exact Below.refl _ _ | refine Below.setCell ?_ (by simp) _ | refine Below.alloc ?_ (by simp <;> omega) _ | refine below_drewN ?_ _ | refine Below.drew ?_))⟩ | assumption | exact held7 (by assumption) hba | exact held7 (by assumption) hbb | exact held7 (by assumption) hbc) (first | (go_simp; go_at_call 29; refine (h2.out _ (RA.out.below (held7_below (by assumption)))).mono ?_; rintro e wa ⟨AS, cS, rfl, hown, hba⟩) | (go_simp; go_at_call 53; refine (h5.out _).mono ?_; rintro e wb ⟨rfl, hbb⟩) | (go_simp; go_at_call 52; refine (h3.out _ _ _ (by first | exact hown.rd | exact hown.rd.below hbb)).mono ?_; rintro e w3 ⟨rfl, hbc⟩))
        all_goals
          have hS : w3.cell? ⟨w.heap.size, 0, none⟩ = some (.int .i64 k) ∧ w3.cell? ⟨w.heap.size, 1, none⟩ = some (.slice A rs.length c) ∧ w3.cell? ⟨w.heap.size + 1, 0, none⟩ = some (.string ⟨l.toArray⟩) ∧ w3.cell? ⟨w.heap.size + 1, 1, none⟩ = some (.int .i64 ar) ∧ w3.cell? ⟨w.heap.size + 1, 2, none⟩ = some (.int .i64 ap) ∧ w3.cell? ⟨w.heap.size + 1, 3, none⟩ = some (.int .i64 br) ∧ w3.cell? ⟨w.heap.size + 1, 4, none⟩ = some (.int .i64 bp) ∧ Below w2.heap.size w2 w3 := by assumption
          have B := held7_below hS
          replace q0 : w3.cell? ⟨w.heap.size, 0, none⟩ = some (.int .i64 k) := cellKeep B q0
          replace q1 : w3.cell? ⟨w.heap.size, 1, none⟩ = some (.slice A rs.length c) := cellKeep B q1
          replace p0 : w3.cell? ⟨w.heap.size + 1, 0, none⟩ = some (.string ⟨l.toArray⟩) := cellKeep B p0
          replace p1 : w3.cell? ⟨w.heap.size + 1, 1, none⟩ = some (.int .i64 ar) := cellKeep B p1
          replace p2 : w3.cell? ⟨w.heap.size + 1, 2, none⟩ = some (.int .i64 ap) := cellKeep B p2
          replace p3 : w3.cell? ⟨w.heap.size + 1, 3, none⟩ = some (.int .i64 br) := cellKeep B p3
          replace p4 : w3.cell? ⟨w.heap.size + 1, 4, none⟩ = some (.int .i64 bp) := cellKeep B p4
          replace RA := Lib.hid (RA.out.below B)
          replace T := Lib.hid (T.out.trans (B.mono T.out.size))
          clear hS B
          go_wp2_with fail
          refine (h2.out _ (RA.out.below (by repeat (first | exact Below.refl _ _ | refine Below.setCell ?_ (by simp) _ | refine Below.alloc ?_ (by simp <;> omega) _ | refine below_drewN ?_ _ | refine Below.drew ?_)))).mono ?_
          rintro e w4 ⟨AX, cX, rfl, hown, hb⟩
          have B := below_then (a := w3) (by repeat (first | exact Below.refl _ _ | refine Below.setCell ?_ (by simp) _ | refine Below.alloc ?_ (by simp <;> omega) _ | refine below_drewN ?_ _ | refine Below.drew ?_)) hb
          replace q0 : w4.cell? ⟨w.heap.size, 0, none⟩ = some (.int .i64 k) := cellKeep B q0
          replace q1 : w4.cell? ⟨w.heap.size, 1, none⟩ = some (.slice A rs.length c) := cellKeep B q1
          replace p0 : w4.cell? ⟨w.heap.size + 1, 0, none⟩ = some (.string ⟨l.toArray⟩) := cellKeep B p0
          replace p1 : w4.cell? ⟨w.heap.size + 1, 1, none⟩ = some (.int .i64 ar) := cellKeep B p1
          replace p2 : w4.cell? ⟨w.heap.size + 1, 2, none⟩ = some (.int .i64 ap) := cellKeep B p2
          replace p3 : w4.cell? ⟨w.heap.size + 1, 3, none⟩ = some (.int .i64 br) := cellKeep B p3
          replace p4 : w4.cell? ⟨w.heap.size + 1, 4, none⟩ = some (.int .i64 bp) := cellKeep B p4
          replace RA := Lib.hid (RA.out.below B)
          replace T := Lib.hid (T.out.trans (B.mono T.out.size))
          clear hb B
          have RX := Lib.hid hown.rd
          clear hown
          have q0_1 := allocKeep1 q0
          have q1_1 := allocKeep1 q1
          have p0_1 := allocKeep1 p0
          have p1_1 := allocKeep1 p1
          have p2_1 := allocKeep1 p2
          have p3_1 := allocKeep1 p3
          have p4_1 := allocKeep1 p4
          go_wp2_with fail
          clear q0_1 q1_1 p0_1 p1_1 p2_1 p3_1 p4_1
          go_region_held3 (fun w' => w'.cell? ⟨w4.heap.size, 0, none⟩ = some (.int .i64 k) ∧ w'.cell? ⟨w4.heap.size, 1, none⟩ = some (.slice AX rs.length cX) ∧ w'.cell? ⟨w.heap.size + 1, 0, none⟩ = some (.string ⟨l.toArray⟩) ∧ w'.cell? ⟨w.heap.size + 1, 1, none⟩ = some (.int .i64 ar) ∧ w'.cell? ⟨w.heap.size + 1, 2, none⟩ = some (.int .i64 ap) ∧ w'.cell? ⟨w.heap.size + 1, 3, none⟩ = some (.int .i64 br) ∧ w'.cell? ⟨w.heap.size + 1, 4, none⟩ = some (.int .i64 bp) ∧ Below w4.heap.size w4 w') (first | exact ⟨(by simp [go_sem]), (by simp [go_sem]), allocKeep1 p0 _ , allocKeep1 p1 _ , allocKeep1 p2 _ , allocKeep1 p3 _ , allocKeep1 p4 _ , (by repeat (first | exact Below.refl _ _ | refine Below.setCell ?_ (by simp) _ | refine Below.alloc ?_ (by simp <;> omega) _ | refine below_drewN ?_ _ | refine Below.drew ?_))⟩ | assumption | exact held7 (by assumption) hbb | exact held7 (by assumption) hbc) (first | (go_simp; go_at_call 53; refine (h5.out _).mono ?_; rintro e wb ⟨rfl, hbb⟩) | (go_simp; go_at_call 54; refine (h4.out _ _ _ (RX.out.below (held7_below (by assumption)))).mono ?_; rintro e w5 ⟨rfl, hbc⟩))
          all_goals
            have hS : w5.cell? ⟨w4.heap.size, 0, none⟩ = some (.int .i64 k) ∧ w5.cell? ⟨w4.heap.size, 1, none⟩ = some (.slice AX rs.length cX) ∧ w5.cell? ⟨w.heap.size + 1, 0, none⟩ = some (.string ⟨l.toArray⟩) ∧ w5.cell? ⟨w.heap.size + 1, 1, none⟩ = some (.int .i64 ar) ∧ w5.cell? ⟨w.heap.size + 1, 2, none⟩ = some (.int .i64 ap) ∧ w5.cell? ⟨w.heap.size + 1, 3, none⟩ = some (.int .i64 br) ∧ w5.cell? ⟨w.heap.size + 1, 4, none⟩ = some (.int .i64 bp) ∧ Below w4.heap.size w4 w5 := by assumption
            have B := held7_below hS
            replace q0 : w5.cell? ⟨w.heap.size, 0, none⟩ = some (.int .i64 k) := cellKeep B q0
            replace q1 : w5.cell? ⟨w.heap.size, 1, none⟩ = some (.slice A rs.length c) := cellKeep B q1
            replace p0 : w5.cell? ⟨w.heap.size + 1, 0, none⟩ = some (.string ⟨l.toArray⟩) := cellKeep B p0
            replace p1 : w5.cell? ⟨w.heap.size + 1, 1, none⟩ = some (.int .i64 ar) := cellKeep B p1
            replace p2 : w5.cell? ⟨w.heap.size + 1, 2, none⟩ = some (.int .i64 ap) := cellKeep B p2
            replace p3 : w5.cell? ⟨w.heap.size + 1, 3, none⟩ = some (.int .i64 br) := cellKeep B p3
            replace p4 : w5.cell? ⟨w.heap.size + 1, 4, none⟩ = some (.int .i64 bp) := cellKeep B p4
            have x0 : w5.cell? ⟨w4.heap.size, 0, none⟩ = some (.int .i64 k) := hS.1
            have x1 : w5.cell? ⟨w4.heap.size, 1, none⟩ = some (.slice AX rs.length cX) := hS.2.1
            replace RA := Lib.hid (RA.out.below B)
            replace RX := Lib.hid (RX.out.below B)
            replace T := Lib.hid (T.out.trans (B.mono T.out.size))
            clear hS B
            go_wp2_with fail
            go_region_held3 (fun w' => w'.cell? ⟨w.heap.size, 0, none⟩ = some (.int .i64 k) ∧ w'.cell? ⟨w.heap.size, 1, none⟩ = some (.slice A rs.length c) ∧ w'.cell? ⟨w4.heap.size, 0, none⟩ = some (.int .i64 k) ∧ w'.cell? ⟨w4.heap.size, 1, none⟩ = some (.slice AX rs.length cX) ∧ Below w5.heap.size w5 w') (first | exact ⟨q0, q1, x0, x1, (by repeat (first | exact Below.refl _ _ | refine Below.setCell ?_ (by simp) _ | refine Below.alloc ?_ (by simp <;> omega) _ | refine below_drewN ?_ _ | refine Below.drew ?_))⟩ | assumption | exact held4 (by assumption) hba | exact held4 (by assumption) hbc) (first | (go_simp; go_at_call 29; refine (h2.out _ (RA.out.below (held4_below (by assumption)))).mono ?_; rintro e wa ⟨AU, cU, rfl, hown, hba⟩) | (go_simp; go_at_call 32; refine (eqSystem_t _ _ _ _ _ _ _ (RX.out.below (held4_below (by assumption))) hown.rd (by omega)).mono ?_; rintro e w6 ⟨rfl, hbc⟩))
            all_goals
              have hS : w6.cell? ⟨w.heap.size, 0, none⟩ = some (.int .i64 k) ∧ w6.cell? ⟨w.heap.size, 1, none⟩ = some (.slice A rs.length c) ∧ w6.cell? ⟨w4.heap.size, 0, none⟩ = some (.int .i64 k) ∧ w6.cell? ⟨w4.heap.size, 1, none⟩ = some (.slice AX rs.length cX) ∧ Below w5.heap.size w5 w6 := by assumption
              have B := held4_below hS
              replace q0 : w6.cell? ⟨w.heap.size, 0, none⟩ = some (.int .i64 k) := cellKeep B q0
              replace q1 : w6.cell? ⟨w.heap.size, 1, none⟩ = some (.slice A rs.length c) := cellKeep B q1
              replace p0 : w6.cell? ⟨w.heap.size + 1, 0, none⟩ = some (.string ⟨l.toArray⟩) := cellKeep B p0
              replace p1 : w6.cell? ⟨w.heap.size + 1, 1, none⟩ = some (.int .i64 ar) := cellKeep B p1
              replace p2 : w6.cell? ⟨w.heap.size + 1, 2, none⟩ = some (.int .i64 ap) := cellKeep B p2
              replace p3 : w6.cell? ⟨w.heap.size + 1, 3, none⟩ = some (.int .i64 br) := cellKeep B p3
              replace p4 : w6.cell? ⟨w.heap.size + 1, 4, none⟩ = some (.int .i64 bp) := cellKeep B p4
              replace x0 : w6.cell? ⟨w4.heap.size, 0, none⟩ = some (.int .i64 k) := cellKeep B x0
              replace x1 : w6.cell? ⟨w4.heap.size, 1, none⟩ = some (.slice AX rs.length cX) := cellKeep B x1
              replace RA := Lib.hid (RA.out.below B)
              replace RX := Lib.hid (RX.out.below B)
              replace T := Lib.hid (T.out.trans (B.mono T.out.size))
              clear hS B
              go_wp2_with fail
              go_ret
              exact ⟨rfl, T.out.trans ((show Below w6.heap.size w6 _ from (by repeat (first | exact Below.refl _ _ | refine Below.setCell ?_ (by simp) _ | refine Below.alloc ?_ (by simp <;> omega) _ | refine below_drewN ?_ _ | refine Below.drew ?_))).mono T.out.size)⟩

set_option maxRecDepth 100000 in
theorem lifted (os : Os) (started : os.Started) (H : Type) (enc : TypeId × Value → H) :
    ReturnsInHanded {} Try.checked os 11 .any (Rows.fnExactSidesOfSpec.pre6 enc Try.prog Try.f11 Rows.fnExactSidesOfRow.domain false) (Rows.fnExactSidesOfSpec.post enc Try.prog Try.f11 false true false false) := by
  refine returnsInHanded_of_change (C := Try.checked) Try.own started (by kernel_rfl) Try.func11
    (ChangeSpec.witness6 (enc := enc) (C := Try.checked) false ⟨#[], #[.agg #[.int .i64 0, .slice none 0 0], .agg #[.string ByteArray.empty, .int .i64 0, .int .i64 0, .int .i64 0, .int .i64 0]], []⟩ 8 (by kernel_rfl) (by kernel_rfl) (by kernel_rfl) (by kernel_rfl)) ?_
  intro W base args ds gs before hval0 hW hcnd _
  have hval : ∀ (j : Nat) t v, Try.f11.params[j]? = some t → args[j]? = some v → Value.okWide Try.prog W .any base t v := hval0
  have hW' := hW
  have hlt : ∀ x ∈ before, x.block < W.heap.size := fun x hx => hW.lt x hx
  obtain ⟨p, q, hA0, hV, rfl, hfz, hnd⟩ := hW
  have hA : DataW.TrodAll enc Try.prog W 0 (fun _ => true) true Try.f11.params.toList args.toList ds p := hA0
  rw [Try.params11] at hA hval
  obtain ⟨v0, v1, d0, d1, p0, p1, rfl, rfl, rfl, h0, h1⟩ := trodAll_two hA
  clear hA0 hval0 hfz hnd
  obtain ⟨k0, A0, c0, rs0, rfl, hr0⟩ := openSystem (hval 0 38 v0 rfl rfl) h0
  obtain ⟨x1, rfl, hr1⟩ := openPair (hval 1 73 v1 rfl rfl) h1
  refine (walk k0 A0 c0 rs0 x1 W hr0 hr1).mono fun e W' ⟨he, hg⟩ => ?_
  subst he
  exact ⟨_, rfl, lawPost Try.laidOut (by kernel_rfl) (by kernel_rfl) Try.boolType rfl rfl hW' hg⟩

theorem proved : Rows.FnExactSidesOfSaid :=
  OpenClaim.holds_of_wide 11 Try.f11 rfl rfl rfl rfl rfl rfl rfl ⟨rfl, rfl, rfl, rfl, rfl⟩ rfl rfl rfl rfl rfl (by kernel_rfl) Try.func11 (by kernel_rfl)
    (of_decide_eq_true (by kernel_rfl)) (by unfold Func.isWrapper; first | (rw [if_pos (by decide +kernel)]; kernel_rfl) | (rw [if_neg (by decide +kernel)]; exact ⟨rfl, rfl⟩))
    (fun os started H enc _ => lifted os started H enc)
#print axioms proved
end Go.Proofs.Ytoijojdegohknaa.lawExactSidesOf
