/-
  The law FnExactRunSteps returns true for every input, and leaves its arguments as they were.
  Conditions: none.
-/
import Derived.Test.YtoijojdegohknaaOpen
import Derived.Test.YtoijojdegohknaaRun
import Derived.Test.YtoijojdegohknaaOpen2
namespace Go.Proofs.Ytoijojdegohknaa.lawExactRunSteps
open Go.ChangeShapes Go.WideShapes Go.ChangeAt Go.RowKit
set_option linter.unusedVariables false

set_option maxRecDepth 100000 in
set_option maxHeartbeats 4000000 in
theorem walk (k : Int) (A : Option Addr) (c : Nat) (rs : List M.Rule) (l : List UInt8) (B0 : Option Addr) (d : Nat) (xs : List M.Step) (w : World) (hr : (-9223372036854775808 ≤ k ∧ k ≤ 9223372036854775807) ∧ rs.length ≤ 9223372036854775807 ∧ Rd w 2 A rs.length (ruls rs) ∧ ∀ r ∈ rs, r.left.length ≤ 9223372036854775807 ∧ r.right.length ≤ 9223372036854775807) (hll0 : l.length ≤ 9223372036854775807) (ht : xs.length ≤ 9223372036854775807 ∧ Rd w 2 B0 xs.length (steps_ xs)) :
    Calls Try.prog 9 #[.agg #[.int .i64 k, .slice A rs.length c], .string ⟨l.toArray⟩, .slice B0 xs.length d] w fun e w' => e = .returned (.bool true) ∧ Below w.heap.size w w' := by
  obtain ⟨hk, hl, hA, hs⟩ := hr
  obtain ⟨hxl0, hB⟩ := ht
  have RA := Lib.hid hA
  have RB := Lib.hid hB
  clear hB
  by_cases hbig : 1048576 < l.length
  case pos =>
    clear hA hs
    go_enter Try.func9, Try.ntmps9
    go_wp2
    go_ret
    exact ⟨rfl, (Below.refl _ _).alloc (Nat.le_refl _) _⟩
  case neg =>
  have hll : l.length ≤ 1048576 := by omega
  have h1 := Lib.hid (fun W h => szSystem_c k A c rs 1048576 W h hl hs (by omega) (by omega))
  by_cases hz : M.szRules rs 1048576 < 0
  case pos =>
    rw [if_pos hz] at h1
    clear hs hA hz
    go_enter Try.func9, Try.ntmps9
    go_wp2_with fail
    refine (h1.out _ (RA.out.below (by repeat (first | exact Below.refl _ _ | refine Below.setCell ?_ (by simp) _ | refine Below.alloc ?_ (by simp <;> omega) _ | refine below_drewN ?_ _ | refine Below.drew ?_)))).mono ?_
    rintro e w1 ⟨rfl, hb⟩
    have B := below_then (a := w) (by repeat (first | exact Below.refl _ _ | refine Below.setCell ?_ (by simp) _ | refine Below.alloc ?_ (by simp <;> omega) _ | refine below_drewN ?_ _ | refine Below.drew ?_)) hb
    have q0 : w1.cell? ⟨w.heap.size, 0, none⟩ = some (.int .i64 k) := cellKeep hb (by simp [go_sem])
    have q1 : w1.cell? ⟨w.heap.size, 1, none⟩ = some (.slice A rs.length c) := cellKeep hb (by simp [go_sem])
    replace RA := Lib.hid (RA.out.below B)
    replace RB := Lib.hid (RB.out.below B)
    have T := Lib.hid B
    clear hb B
    go_wp2_with fail
    go_ret
    exact ⟨rfl, T.out.trans ((show Below w1.heap.size w1 _ from (by repeat (first | exact Below.refl _ _ | refine Below.setCell ?_ (by simp) _ | refine Below.alloc ?_ (by simp <;> omega) _ | refine below_drewN ?_ _ | refine Below.drew ?_))).mono T.out.size)⟩
  case neg =>
    rw [if_neg hz] at h1
    obtain ⟨hl2, hs2, hle⟩ := M.szRules_ok hz
    have hl3 : rs.length ≤ 1048576 := by omega
    have hs3 : ∀ r ∈ rs, r.left.length ≤ 1048576 ∧ r.right.length ≤ 1048576 := fun r hr => by have := hs2 r hr; omega
    generalize M.szRules rs 1048576 = z at *
    have hg : ¬ z < 0 := hz
    have h0 := Lib.hid (fun W => toBelow1 (szStepS_c B0 d xs.length z W hxl0 hle (by omega)))
    clear hs hA hs2
    by_cases hz2 : z - (xs.length : Int) < 0
    case pos =>
      rw [if_pos hz2] at h0
      clear hz2 hs3
      go_enter Try.func9, Try.ntmps9
      go_wp2_with fail
      refine (h1.out _ (RA.out.below (by repeat (first | exact Below.refl _ _ | refine Below.setCell ?_ (by simp) _ | refine Below.alloc ?_ (by simp <;> omega) _ | refine below_drewN ?_ _ | refine Below.drew ?_)))).mono ?_
      rintro e w1 ⟨rfl, hb⟩
      have B := below_then (a := w) (by repeat (first | exact Below.refl _ _ | refine Below.setCell ?_ (by simp) _ | refine Below.alloc ?_ (by simp <;> omega) _ | refine below_drewN ?_ _ | refine Below.drew ?_)) hb
      have q0 : w1.cell? ⟨w.heap.size, 0, none⟩ = some (.int .i64 k) := cellKeep hb (by simp [go_sem])
      have q1 : w1.cell? ⟨w.heap.size, 1, none⟩ = some (.slice A rs.length c) := cellKeep hb (by simp [go_sem])
      replace RA := Lib.hid (RA.out.below B)
      replace RB := Lib.hid (RB.out.below B)
      have T := Lib.hid B
      clear hb B
      go_wp2_with fail
      refine (h0.out _).mono ?_
      rintro e w2 ⟨rfl, hb⟩
      have B := below_then (a := w1) (by repeat (first | exact Below.refl _ _ | refine Below.setCell ?_ (by simp) _ | refine Below.alloc ?_ (by simp <;> omega) _ | refine below_drewN ?_ _ | refine Below.drew ?_)) hb
      replace q0 : w2.cell? ⟨w.heap.size, 0, none⟩ = some (.int .i64 k) := cellKeep B q0
      replace q1 : w2.cell? ⟨w.heap.size, 1, none⟩ = some (.slice A rs.length c) := cellKeep B q1
      replace RA := Lib.hid (RA.out.below B)
      replace RB := Lib.hid (RB.out.below B)
      replace T := Lib.hid (T.out.trans (B.mono T.out.size))
      clear hb B
      go_wp2_with fail
      go_ret
      exact ⟨rfl, T.out.trans ((show Below w2.heap.size w2 _ from (by repeat (first | exact Below.refl _ _ | refine Below.setCell ?_ (by simp) _ | refine Below.alloc ?_ (by simp <;> omega) _ | refine below_drewN ?_ _ | refine Below.drew ?_))).mono T.out.size)⟩
    case neg =>
      rw [if_neg hz2] at h0
      have hxl : xs.length ≤ 1048576 := by omega
      obtain ⟨y, hyy⟩ : ∃ y, y = z - (xs.length : Int) := ⟨_, rfl⟩
      rw [← hyy] at h0 hz2
      clear hyy
      have h2 := Lib.hid (fun W h => toSystem_c k A c rs W h hl3)
      have h5 := Lib.hid (fun W h => toStepS_c B0 d xs W h hxl)
      have h3 := Lib.hid (fun W A c B d h h' => spec_RunSteps_c k A c rs l B d xs W h h' hl3 hs3 hll hxl)
      have h4 := Lib.hid (fun W A c B d h h' => impl_RunSteps_c k A c rs l B d xs W h h' hl3 hs3 hll hxl)
      clear hs3
      generalize M.RunSteps k rs l xs = v at *
      obtain ⟨zs, zb⟩ := v
      simp only at h3 h4
      cases zb
      all_goals
        go_enter Try.func9, Try.ntmps9
        go_wp2_with fail
        refine (h1.out _ (RA.out.below (by repeat (first | exact Below.refl _ _ | refine Below.setCell ?_ (by simp) _ | refine Below.alloc ?_ (by simp <;> omega) _ | refine below_drewN ?_ _ | refine Below.drew ?_)))).mono ?_
        rintro e w1 ⟨rfl, hb⟩
        have B := below_then (a := w) (by repeat (first | exact Below.refl _ _ | refine Below.setCell ?_ (by simp) _ | refine Below.alloc ?_ (by simp <;> omega) _ | refine below_drewN ?_ _ | refine Below.drew ?_)) hb
        have q0 : w1.cell? ⟨w.heap.size, 0, none⟩ = some (.int .i64 k) := cellKeep hb (by simp [go_sem])
        have q1 : w1.cell? ⟨w.heap.size, 1, none⟩ = some (.slice A rs.length c) := cellKeep hb (by simp [go_sem])
        replace RA := Lib.hid (RA.out.below B)
        replace RB := Lib.hid (RB.out.below B)
        have T := Lib.hid B
        clear hb B
        go_wp2_with fail
        refine (h0.out _).mono ?_
        rintro e w2 ⟨rfl, hb⟩
        have B := below_then (a := w1) (by repeat (first | exact Below.refl _ _ | refine Below.setCell ?_ (by simp) _ | refine Below.alloc ?_ (by simp <;> omega) _ | refine below_drewN ?_ _ | refine Below.drew ?_)) hb
        replace q0 : w2.cell? ⟨w.heap.size, 0, none⟩ = some (.int .i64 k) := cellKeep B q0
        replace q1 : w2.cell? ⟨w.heap.size, 1, none⟩ = some (.slice A rs.length c) := cellKeep B q1
        replace RA := Lib.hid (RA.out.below B)
        replace RB := Lib.hid (RB.out.below B)
        replace T := Lib.hid (T.out.trans (B.mono T.out.size))
        clear hb B
        go_wp2_with fail
        refine (h2.out _ (RA.out.below (by repeat (first | exact Below.refl _ _ | refine Below.setCell ?_ (by simp) _ | refine Below.alloc ?_ (by simp <;> omega) _ | refine below_drewN ?_ _ | refine Below.drew ?_)))).mono ?_
        rintro e w3 ⟨AS, cS, rfl, hown, hb⟩
        have B := below_then (a := w2) (by repeat (first | exact Below.refl _ _ | refine Below.setCell ?_ (by simp) _ | refine Below.alloc ?_ (by simp <;> omega) _ | refine below_drewN ?_ _ | refine Below.drew ?_)) hb
        replace q0 : w3.cell? ⟨w.heap.size, 0, none⟩ = some (.int .i64 k) := cellKeep B q0
        replace q1 : w3.cell? ⟨w.heap.size, 1, none⟩ = some (.slice A rs.length c) := cellKeep B q1
        replace RA := Lib.hid (RA.out.below B)
        replace RB := Lib.hid (RB.out.below B)
        replace T := Lib.hid (T.out.trans (B.mono T.out.size))
        clear hb B
        have RS := Lib.hid hown.rd
        clear hown
        go_wp2_with fail
        refine (h5.out _ (RB.out.below (by repeat (first | exact Below.refl _ _ | refine Below.setCell ?_ (by simp) _ | refine Below.alloc ?_ (by simp <;> omega) _ | refine below_drewN ?_ _ | refine Below.drew ?_)))).mono ?_
        rintro e w4 ⟨AT, cT, rfl, hown, hb⟩
        have B := below_then (a := w3) (by repeat (first | exact Below.refl _ _ | refine Below.setCell ?_ (by simp) _ | refine Below.alloc ?_ (by simp <;> omega) _ | refine below_drewN ?_ _ | refine Below.drew ?_)) hb
        replace q0 : w4.cell? ⟨w.heap.size, 0, none⟩ = some (.int .i64 k) := cellKeep B q0
        replace q1 : w4.cell? ⟨w.heap.size, 1, none⟩ = some (.slice A rs.length c) := cellKeep B q1
        replace RA := Lib.hid (RA.out.below B)
        replace RB := Lib.hid (RB.out.below B)
        replace RS := Lib.hid (RS.out.below B)
        replace T := Lib.hid (T.out.trans (B.mono T.out.size))
        clear hb B
        have RT := Lib.hid hown.rd
        clear hown
        go_wp2_with fail
        refine (h3.out _ _ _ _ _ RS.out RT.out).mono ?_
        rintro e w5 ⟨rfl, hb⟩
        have B := below_then (a := w4) (by repeat (first | exact Below.refl _ _ | refine Below.setCell ?_ (by simp) _ | refine Below.alloc ?_ (by simp <;> omega) _ | refine below_drewN ?_ _ | refine Below.drew ?_)) hb
        replace q0 : w5.cell? ⟨w.heap.size, 0, none⟩ = some (.int .i64 k) := cellKeep B q0
        replace q1 : w5.cell? ⟨w.heap.size, 1, none⟩ = some (.slice A rs.length c) := cellKeep B q1
        replace RA := Lib.hid (RA.out.below B)
        replace RB := Lib.hid (RB.out.below B)
        replace RS := Lib.hid (RS.out.below B)
        replace RT := Lib.hid (RT.out.below B)
        replace T := Lib.hid (T.out.trans (B.mono T.out.size))
        clear hb B
        go_wp2_with fail
        refine (h2.out _ (RA.out.below (by repeat (first | exact Below.refl _ _ | refine Below.setCell ?_ (by simp) _ | refine Below.alloc ?_ (by simp <;> omega) _ | refine below_drewN ?_ _ | refine Below.drew ?_)))).mono ?_
        rintro e w6 ⟨AX, cX, rfl, hown, hb⟩
        have B := below_then (a := w5) (by repeat (first | exact Below.refl _ _ | refine Below.setCell ?_ (by simp) _ | refine Below.alloc ?_ (by simp <;> omega) _ | refine below_drewN ?_ _ | refine Below.drew ?_)) hb
        replace q0 : w6.cell? ⟨w.heap.size, 0, none⟩ = some (.int .i64 k) := cellKeep B q0
        replace q1 : w6.cell? ⟨w.heap.size, 1, none⟩ = some (.slice A rs.length c) := cellKeep B q1
        replace RA := Lib.hid (RA.out.below B)
        replace RB := Lib.hid (RB.out.below B)
        replace T := Lib.hid (T.out.trans (B.mono T.out.size))
        clear hb B
        have RX := Lib.hid hown.rd
        clear hown
        have q0_1 := allocKeep1 q0
        have q1_1 := allocKeep1 q1
        go_wp2_with fail
        clear q0_1 q1_1
        refine (h5.out _ (RB.out.below (by repeat (first | exact Below.refl _ _ | refine Below.setCell ?_ (by simp) _ | refine Below.alloc ?_ (by simp <;> omega) _ | refine below_drewN ?_ _ | refine Below.drew ?_)))).mono ?_
        rintro e w7 ⟨AY, cY, rfl, hown, hb⟩
        have B := below_then (a := w6) (by repeat (first | exact Below.refl _ _ | refine Below.setCell ?_ (by simp) _ | refine Below.alloc ?_ (by simp <;> omega) _ | refine below_drewN ?_ _ | refine Below.drew ?_)) hb
        replace q0 : w7.cell? ⟨w.heap.size, 0, none⟩ = some (.int .i64 k) := cellKeep B q0
        replace q1 : w7.cell? ⟨w.heap.size, 1, none⟩ = some (.slice A rs.length c) := cellKeep B q1
        have x0 : w7.cell? ⟨w6.heap.size, 0, none⟩ = some (.int .i64 k) := cellKeep hb (by simp [go_sem])
        have x1 : w7.cell? ⟨w6.heap.size, 1, none⟩ = some (.slice AX rs.length cX) := cellKeep hb (by simp [go_sem])
        replace RA := Lib.hid (RA.out.below B)
        replace RB := Lib.hid (RB.out.below B)
        replace RX := Lib.hid (RX.out.below B)
        replace T := Lib.hid (T.out.trans (B.mono T.out.size))
        clear hb B
        have RY := Lib.hid hown.rd
        clear hown
        go_wp2_with fail
        refine (h4.out _ _ _ _ _ RX.out RY.out).mono ?_
        rintro e w8 ⟨rfl, hb⟩
        have B := below_then (a := w7) (by repeat (first | exact Below.refl _ _ | refine Below.setCell ?_ (by simp) _ | refine Below.alloc ?_ (by simp <;> omega) _ | refine below_drewN ?_ _ | refine Below.drew ?_)) hb
        replace q0 : w8.cell? ⟨w.heap.size, 0, none⟩ = some (.int .i64 k) := cellKeep B q0
        replace q1 : w8.cell? ⟨w.heap.size, 1, none⟩ = some (.slice A rs.length c) := cellKeep B q1
        replace x0 : w8.cell? ⟨w6.heap.size, 0, none⟩ = some (.int .i64 k) := cellKeep B x0
        replace x1 : w8.cell? ⟨w6.heap.size, 1, none⟩ = some (.slice AX rs.length cX) := cellKeep B x1
        replace RA := Lib.hid (RA.out.below B)
        replace RB := Lib.hid (RB.out.below B)
        replace RX := Lib.hid (RX.out.below B)
        replace RY := Lib.hid (RY.out.below B)
        replace T := Lib.hid (T.out.trans (B.mono T.out.size))
        clear hb B
        go_wp2_with fail
        go_region_held3 (fun w' => w'.cell? ⟨w.heap.size, 0, none⟩ = some (.int .i64 k) ∧ w'.cell? ⟨w.heap.size, 1, none⟩ = some (.slice A rs.length c) ∧ w'.cell? ⟨w6.heap.size, 0, none⟩ = some (.int .i64 k) ∧ w'.cell? ⟨w6.heap.size, 1, none⟩ = some (.slice AX rs.length cX) ∧ Below w8.heap.size w8 w') (first | exact ⟨q0, q1, x0, x1, (by repeat (first | exact Below.refl _ _ | refine Below.setCell ?_ (by simp) _ | refine Below.alloc ?_ (by simp <;> omega) _ | refine below_drewN ?_ _ | refine Below.drew ?_))⟩ | assumption | exact held4 (by assumption) hba | exact held4 (by assumption) hbc) (first | (go_simp; go_at_call 29; refine (h2.out _ (RA.out.below (held4_below (by assumption)))).mono ?_; rintro e wa ⟨AU, cU, rfl, hown, hba⟩) | (go_simp; go_at_call 32; refine (eqSystem_t _ _ _ _ _ _ _ (RX.out.below (held4_below (by assumption))) hown.rd (by omega)).mono ?_; rintro e w9 ⟨rfl, hbc⟩))
        all_goals
          have hS : w9.cell? ⟨w.heap.size, 0, none⟩ = some (.int .i64 k) ∧ w9.cell? ⟨w.heap.size, 1, none⟩ = some (.slice A rs.length c) ∧ w9.cell? ⟨w6.heap.size, 0, none⟩ = some (.int .i64 k) ∧ w9.cell? ⟨w6.heap.size, 1, none⟩ = some (.slice AX rs.length cX) ∧ Below w8.heap.size w8 w9 := by assumption
          have B := held4_below hS
          replace q0 : w9.cell? ⟨w.heap.size, 0, none⟩ = some (.int .i64 k) := cellKeep B q0
          replace q1 : w9.cell? ⟨w.heap.size, 1, none⟩ = some (.slice A rs.length c) := cellKeep B q1
          replace x0 : w9.cell? ⟨w6.heap.size, 0, none⟩ = some (.int .i64 k) := cellKeep B x0
          replace x1 : w9.cell? ⟨w6.heap.size, 1, none⟩ = some (.slice AX rs.length cX) := cellKeep B x1
          replace RA := Lib.hid (RA.out.below B)
          replace RB := Lib.hid (RB.out.below B)
          replace RX := Lib.hid (RX.out.below B)
          replace RY := Lib.hid (RY.out.below B)
          replace T := Lib.hid (T.out.trans (B.mono T.out.size))
          clear hS B
          go_wp2_with fail
          refine (h5.out _ RB.out).mono ?_
          rintro e w10 ⟨AV, cV, rfl, hown2, hb⟩
          have B := below_then (a := w9) (by repeat (first | exact Below.refl _ _ | refine Below.setCell ?_ (by simp) _ | refine Below.alloc ?_ (by simp <;> omega) _ | refine below_drewN ?_ _ | refine Below.drew ?_)) hb
          replace q0 : w10.cell? ⟨w.heap.size, 0, none⟩ = some (.int .i64 k) := cellKeep B q0
          replace q1 : w10.cell? ⟨w.heap.size, 1, none⟩ = some (.slice A rs.length c) := cellKeep B q1
          replace x0 : w10.cell? ⟨w6.heap.size, 0, none⟩ = some (.int .i64 k) := cellKeep B x0
          replace x1 : w10.cell? ⟨w6.heap.size, 1, none⟩ = some (.slice AX rs.length cX) := cellKeep B x1
          replace RA := Lib.hid (RA.out.below B)
          replace RB := Lib.hid (RB.out.below B)
          replace RX := Lib.hid (RX.out.below B)
          replace RY := Lib.hid (RY.out.below B)
          replace T := Lib.hid (T.out.trans (B.mono T.out.size))
          clear hb B
          have RV := Lib.hid hown2.rd
          clear hown2
          go_wp2_with fail
          refine (eqStepS_t _ _ _ _ _ _ RY.out RV.out (by omega)).mono ?_
          rintro e w11 ⟨rfl, hb⟩
          have B := below_then (a := w10) (by repeat (first | exact Below.refl _ _ | refine Below.setCell ?_ (by simp) _ | refine Below.alloc ?_ (by simp <;> omega) _ | refine below_drewN ?_ _ | refine Below.drew ?_)) hb
          replace q0 : w11.cell? ⟨w.heap.size, 0, none⟩ = some (.int .i64 k) := cellKeep B q0
          replace q1 : w11.cell? ⟨w.heap.size, 1, none⟩ = some (.slice A rs.length c) := cellKeep B q1
          replace x0 : w11.cell? ⟨w6.heap.size, 0, none⟩ = some (.int .i64 k) := cellKeep B x0
          replace x1 : w11.cell? ⟨w6.heap.size, 1, none⟩ = some (.slice AX rs.length cX) := cellKeep B x1
          replace RA := Lib.hid (RA.out.below B)
          replace RB := Lib.hid (RB.out.below B)
          replace RX := Lib.hid (RX.out.below B)
          replace RY := Lib.hid (RY.out.below B)
          replace RV := Lib.hid (RV.out.below B)
          replace T := Lib.hid (T.out.trans (B.mono T.out.size))
          clear hb B
          go_wp2_with fail
          go_ret
          exact ⟨rfl, T.out.trans ((show Below w11.heap.size w11 _ from (by repeat (first | exact Below.refl _ _ | refine Below.setCell ?_ (by simp) _ | refine Below.alloc ?_ (by simp <;> omega) _ | refine below_drewN ?_ _ | refine Below.drew ?_))).mono T.out.size)⟩

set_option maxRecDepth 100000 in
theorem lifted (os : Os) (started : os.Started) (H : Type) (enc : TypeId × Value → H) :
    ReturnsInHanded {} Try.checked os 9 .any (Rows.fnExactRunStepsSpec.pre6 enc Try.prog Try.f9 Rows.fnExactRunStepsRow.domain false) (Rows.fnExactRunStepsSpec.post enc Try.prog Try.f9 false true false false) := by
  refine returnsInHanded_of_change (C := Try.checked) Try.own started (by kernel_rfl) Try.func9
    (ChangeSpec.witness6 (enc := enc) (C := Try.checked) false ⟨#[], #[.agg #[.int .i64 0, .slice none 0 0], .string ByteArray.empty, .slice none 0 0], []⟩ 8 (by kernel_rfl) (by kernel_rfl) (by kernel_rfl) (by kernel_rfl)) ?_
  intro W base args ds gs before hval0 hW hcnd _
  have hval : ∀ (j : Nat) t v, Try.f9.params[j]? = some t → args[j]? = some v → Value.okWide Try.prog W .any base t v := hval0
  have hW' := hW
  have hlt : ∀ x ∈ before, x.block < W.heap.size := fun x hx => hW.lt x hx
  obtain ⟨p, q, hA0, hV, rfl, hfz, hnd⟩ := hW
  have hA : DataW.TrodAll enc Try.prog W 0 (fun _ => true) true Try.f9.params.toList args.toList ds p := hA0
  rw [Try.params9] at hA hval
  obtain ⟨v0, v1, v2, d0, d1, d2, p0, p1, p2, rfl, rfl, rfl, h0, h1, h2⟩ := trodAll_three hA
  clear hA0 hval0 hfz hnd
  obtain ⟨k0, A0, c0, rs0, rfl, hr0⟩ := openSystem (hval 0 38 v0 rfl rfl) h0
  obtain ⟨s1, rfl, rfl, rfl, hs1⟩ := Go.ChangeMaps.open_string Try.underlying9 (hval 1 9 v1 rfl rfl) h1
  obtain ⟨l1, rfl⟩ := bytesList s1
  have hl1 := bytesLen hs1
  obtain ⟨A2, c2, xs2, rfl, hr2⟩ := openSteps (hval 2 64 v2 rfl rfl) h2
  refine (walk k0 A0 c0 rs0 l1 A2 c2 xs2 W hr0 hl1 hr2).mono fun e W' ⟨he, hg⟩ => ?_
  subst he
  exact ⟨_, rfl, lawPost Try.laidOut (by kernel_rfl) (by kernel_rfl) Try.boolType rfl rfl hW' hg⟩

theorem proved : Rows.FnExactRunStepsSaid :=
  OpenClaim.holds_of_wide 9 Try.f9 rfl rfl rfl rfl rfl rfl rfl ⟨rfl, rfl, rfl, rfl, rfl⟩ rfl rfl rfl rfl rfl (by kernel_rfl) Try.func9 (by kernel_rfl)
    (of_decide_eq_true (by kernel_rfl)) (by unfold Func.isWrapper; first | (rw [if_pos (by decide +kernel)]; kernel_rfl) | (rw [if_neg (by decide +kernel)]; exact ⟨rfl, rfl⟩))
    (fun os started H enc _ => lifted os started H enc)
#print axioms proved
end Go.Proofs.Ytoijojdegohknaa.lawExactRunSteps
