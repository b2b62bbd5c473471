/-
  The law FnExactWorkOk returns true for every input, and leaves its arguments as they were.
  Conditions: none.
-/
import Derived.Test.YtoijojdegohknaaOpen
import Derived.Test.YtoijojdegohknaaWork
namespace Go.Proofs.Ytoijojdegohknaa.lawExactWorkOk
open Go.ChangeShapes Go.WideShapes Go.ChangeAt Go.RowKit
set_option linter.unusedVariables false

set_option maxRecDepth 100000 in
set_option maxHeartbeats 4000000 in
theorem walk (k : Int) (A : Option Addr) (c : Nat) (rs : List M.Rule) (B0 : Option Addr) (d : Nat) (qs : List M.Rule) (t : Int) (w : World) (hr : (rs.length ≤ 9223372036854775807 ∧ Rd w 2 A rs.length (ruls rs) ∧ ∀ r ∈ rs, r.left.length ≤ 9223372036854775807 ∧ r.right.length ≤ 9223372036854775807) ∧ (qs.length ≤ 9223372036854775807 ∧ Rd w 2 B0 qs.length (ruls qs) ∧ ∀ r ∈ qs, r.left.length ≤ 9223372036854775807 ∧ r.right.length ≤ 9223372036854775807)) :
    Calls Try.prog 4 #[.agg #[.int .i64 k, .slice A rs.length c, .slice B0 qs.length d, .int .i64 t]] w fun e w' => e = .returned (.bool true) ∧ Below w.heap.size w w' := by
  obtain ⟨⟨hl, hA, hs⟩, hql, hB, hqs⟩ := hr
  have RA := Lib.hid hA
  have RB := Lib.hid hB
  have h1 := Lib.hid (fun W h h' => szWork_c k A c rs B0 d qs t 1048576 W h h' hl hql hs hqs (by omega) (by omega))
  by_cases hz : M.szRules rs 1048576 < 0
  case pos =>
    rw [if_pos hz] at h1
    clear hs hA hz hqs hB
    go_enter Try.func4, Try.ntmps4
    go_wp2_with fail
    refine (h1.out _ (RA.out.below (by repeat (first | exact Below.refl _ _ | refine Below.setCell ?_ (by simp) _ | refine Below.alloc ?_ (by simp <;> omega) _ | refine below_drewN ?_ _ | refine Below.drew ?_))) (RB.out.below (by repeat (first | exact Below.refl _ _ | refine Below.setCell ?_ (by simp) _ | refine Below.alloc ?_ (by simp <;> omega) _ | refine below_drewN ?_ _ | refine Below.drew ?_)))).mono ?_
    rintro e w1 ⟨rfl, hb⟩
    have B := below_then (a := w) (by repeat (first | exact Below.refl _ _ | refine Below.setCell ?_ (by simp) _ | refine Below.alloc ?_ (by simp <;> omega) _ | refine below_drewN ?_ _ | refine Below.drew ?_)) hb
    have q0 : w1.cell? ⟨w.heap.size, 0, none⟩ = some (.int .i64 k) := cellKeep hb (by simp [go_sem])
    have q1 : w1.cell? ⟨w.heap.size, 1, none⟩ = some (.slice A rs.length c) := cellKeep hb (by simp [go_sem])
    have q2 : w1.cell? ⟨w.heap.size, 2, none⟩ = some (.slice B0 qs.length d) := cellKeep hb (by simp [go_sem])
    have q3 : w1.cell? ⟨w.heap.size, 3, none⟩ = some (.int .i64 t) := cellKeep hb (by simp [go_sem])
    replace RA := Lib.hid (RA.out.below B)
    replace RB := Lib.hid (RB.out.below B)
    have T := Lib.hid B
    clear hb B
    go_wp2_with fail
    go_ret
    exact ⟨rfl, T.out.trans ((show Below w1.heap.size w1 _ from (by repeat (first | exact Below.refl _ _ | refine Below.setCell ?_ (by simp) _ | refine Below.alloc ?_ (by simp <;> omega) _ | refine below_drewN ?_ _ | refine Below.drew ?_))).mono T.out.size)⟩
  case neg =>
  rw [if_neg hz] at h1
  obtain ⟨hl2, hs2, hle⟩ := M.szRules_ok hz
  by_cases hz2 : M.szRules qs (M.szRules rs 1048576) < 0
  case pos =>
    rw [if_pos hz2] at h1
    clear hs hA hz hqs hB hs2 hl2 hle hz2
    go_enter Try.func4, Try.ntmps4
    go_wp2_with fail
    refine (h1.out _ (RA.out.below (by repeat (first | exact Below.refl _ _ | refine Below.setCell ?_ (by simp) _ | refine Below.alloc ?_ (by simp <;> omega) _ | refine below_drewN ?_ _ | refine Below.drew ?_))) (RB.out.below (by repeat (first | exact Below.refl _ _ | refine Below.setCell ?_ (by simp) _ | refine Below.alloc ?_ (by simp <;> omega) _ | refine below_drewN ?_ _ | refine Below.drew ?_)))).mono ?_
    rintro e w1 ⟨rfl, hb⟩
    have B := below_then (a := w) (by repeat (first | exact Below.refl _ _ | refine Below.setCell ?_ (by simp) _ | refine Below.alloc ?_ (by simp <;> omega) _ | refine below_drewN ?_ _ | refine Below.drew ?_)) hb
    have q0 : w1.cell? ⟨w.heap.size, 0, none⟩ = some (.int .i64 k) := cellKeep hb (by simp [go_sem])
    have q1 : w1.cell? ⟨w.heap.size, 1, none⟩ = some (.slice A rs.length c) := cellKeep hb (by simp [go_sem])
    have q2 : w1.cell? ⟨w.heap.size, 2, none⟩ = some (.slice B0 qs.length d) := cellKeep hb (by simp [go_sem])
    have q3 : w1.cell? ⟨w.heap.size, 3, none⟩ = some (.int .i64 t) := cellKeep hb (by simp [go_sem])
    replace RA := Lib.hid (RA.out.below B)
    replace RB := Lib.hid (RB.out.below B)
    have T := Lib.hid B
    clear hb B
    go_wp2_with fail
    go_ret
    exact ⟨rfl, T.out.trans ((show Below w1.heap.size w1 _ from (by repeat (first | exact Below.refl _ _ | refine Below.setCell ?_ (by simp) _ | refine Below.alloc ?_ (by simp <;> omega) _ | refine below_drewN ?_ _ | refine Below.drew ?_))).mono T.out.size)⟩
  case neg =>
  rw [if_neg hz2] at h1
  obtain ⟨hq2, hqs2, hqle⟩ := M.szRules_ok hz2
  generalize M.szRules qs (M.szRules rs 1048576) = y at *
  generalize M.szRules rs 1048576 = z at *
  have hl3 : rs.length ≤ 1048576 := by omega
  have hql3 : qs.length ≤ 1048576 := by omega
  have hs3 : ∀ r ∈ rs, r.left.length ≤ 1048576 ∧ r.right.length ≤ 1048576 := fun r hr => by have := hs2 r hr; omega
  have hqs3 : ∀ r ∈ qs, r.left.length ≤ 1048576 ∧ r.right.length ≤ 1048576 := fun r hr => by have := hqs2 r hr; omega
  have h2 := Lib.hid (fun W h h' => toWork_c k A c rs B0 d qs t W h h' hl3 hql3)
  have h3 := Lib.hid (fun W A c B d h h' => spec_WorkOk_c k A c rs B d qs t W h h' hl3 hs3 hql3 hqs3)
  have h4 := Lib.hid (fun W A c B d h h' => impl_WorkOk_c k A c rs B d qs t W h h' hl3 hs3 hql3 hqs3)
  clear hs hA hqs hB hs2 hqs2 hs3 hqs3 hz hl2 hle hq2 hqle
  generalize M.WorkOk k rs qs t = v at *
  cases v
  all_goals
    go_enter Try.func4, Try.ntmps4
    go_wp2_with fail
    refine (h1.out _ (RA.out.below (by repeat (first | exact Below.refl _ _ | refine Below.setCell ?_ (by simp) _ | refine Below.alloc ?_ (by simp <;> omega) _ | refine below_drewN ?_ _ | refine Below.drew ?_))) (RB.out.below (by repeat (first | exact Below.refl _ _ | refine Below.setCell ?_ (by simp) _ | refine Below.alloc ?_ (by simp <;> omega) _ | refine below_drewN ?_ _ | refine Below.drew ?_)))).mono ?_
    rintro e w1 ⟨rfl, hb⟩
    have B := below_then (a := w) (by repeat (first | exact Below.refl _ _ | refine Below.setCell ?_ (by simp) _ | refine Below.alloc ?_ (by simp <;> omega) _ | refine below_drewN ?_ _ | refine Below.drew ?_)) hb
    have q0 : w1.cell? ⟨w.heap.size, 0, none⟩ = some (.int .i64 k) := cellKeep hb (by simp [go_sem])
    have q1 : w1.cell? ⟨w.heap.size, 1, none⟩ = some (.slice A rs.length c) := cellKeep hb (by simp [go_sem])
    have q2 : w1.cell? ⟨w.heap.size, 2, none⟩ = some (.slice B0 qs.length d) := cellKeep hb (by simp [go_sem])
    have q3 : w1.cell? ⟨w.heap.size, 3, none⟩ = some (.int .i64 t) := cellKeep hb (by simp [go_sem])
    replace RA := Lib.hid (RA.out.below B)
    replace RB := Lib.hid (RB.out.below B)
    have T := Lib.hid B
    clear hb B
    go_wp2_with fail
    refine (h2.out _ (RA.out.below (by repeat (first | exact Below.refl _ _ | refine Below.setCell ?_ (by simp) _ | refine Below.alloc ?_ (by simp <;> omega) _ | refine below_drewN ?_ _ | refine Below.drew ?_))) (RB.out.below (by repeat (first | exact Below.refl _ _ | refine Below.setCell ?_ (by simp) _ | refine Below.alloc ?_ (by simp <;> omega) _ | refine below_drewN ?_ _ | refine Below.drew ?_)))).mono ?_
    rintro e w2 ⟨AS, cS, BS, dS, rfl, hown, hown2, hb⟩
    have B := below_then (a := w1) (by repeat (first | exact Below.refl _ _ | refine Below.setCell ?_ (by simp) _ | refine Below.alloc ?_ (by simp <;> omega) _ | refine below_drewN ?_ _ | refine Below.drew ?_)) hb
    replace q0 : w2.cell? ⟨w.heap.size, 0, none⟩ = some (.int .i64 k) := cellKeep B q0
    replace q1 : w2.cell? ⟨w.heap.size, 1, none⟩ = some (.slice A rs.length c) := cellKeep B q1
    replace q2 : w2.cell? ⟨w.heap.size, 2, none⟩ = some (.slice B0 qs.length d) := cellKeep B q2
    replace q3 : w2.cell? ⟨w.heap.size, 3, none⟩ = some (.int .i64 t) := cellKeep B q3
    replace RA := Lib.hid (RA.out.below B)
    replace RB := Lib.hid (RB.out.below B)
    replace T := Lib.hid (T.out.trans (B.mono T.out.size))
    clear hb B
    have RS := Lib.hid hown.rd
    have QS := Lib.hid hown2.rd
    clear hown hown2
    go_wp2_with fail
    refine (h3.out _ _ _ _ _ RS.out QS.out).mono ?_
    rintro e w3 ⟨rfl, hb⟩
    have B := below_then (a := w2) (by repeat (first | exact Below.refl _ _ | refine Below.setCell ?_ (by simp) _ | refine Below.alloc ?_ (by simp <;> omega) _ | refine below_drewN ?_ _ | refine Below.drew ?_)) hb
    replace q0 : w3.cell? ⟨w.heap.size, 0, none⟩ = some (.int .i64 k) := cellKeep B q0
    replace q1 : w3.cell? ⟨w.heap.size, 1, none⟩ = some (.slice A rs.length c) := cellKeep B q1
    replace q2 : w3.cell? ⟨w.heap.size, 2, none⟩ = some (.slice B0 qs.length d) := cellKeep B q2
    replace q3 : w3.cell? ⟨w.heap.size, 3, none⟩ = some (.int .i64 t) := cellKeep B q3
    replace RA := Lib.hid (RA.out.below B)
    replace RB := Lib.hid (RB.out.below B)
    replace RS := Lib.hid (RS.out.below B)
    replace QS := Lib.hid (QS.out.below B)
    replace T := Lib.hid (T.out.trans (B.mono T.out.size))
    clear hb B
    go_wp2_with fail
    refine (h2.out _ (RA.out.below (by repeat (first | exact Below.refl _ _ | refine Below.setCell ?_ (by simp) _ | refine Below.alloc ?_ (by simp <;> omega) _ | refine below_drewN ?_ _ | refine Below.drew ?_))) (RB.out.below (by repeat (first | exact Below.refl _ _ | refine Below.setCell ?_ (by simp) _ | refine Below.alloc ?_ (by simp <;> omega) _ | refine below_drewN ?_ _ | refine Below.drew ?_)))).mono ?_
    rintro e w4 ⟨AX, cX, BX, dX, rfl, hown, hown2, hb⟩
    have B := below_then (a := w3) (by repeat (first | exact Below.refl _ _ | refine Below.setCell ?_ (by simp) _ | refine Below.alloc ?_ (by simp <;> omega) _ | refine below_drewN ?_ _ | refine Below.drew ?_)) hb
    replace q0 : w4.cell? ⟨w.heap.size, 0, none⟩ = some (.int .i64 k) := cellKeep B q0
    replace q1 : w4.cell? ⟨w.heap.size, 1, none⟩ = some (.slice A rs.length c) := cellKeep B q1
    replace q2 : w4.cell? ⟨w.heap.size, 2, none⟩ = some (.slice B0 qs.length d) := cellKeep B q2
    replace q3 : w4.cell? ⟨w.heap.size, 3, none⟩ = some (.int .i64 t) := cellKeep B q3
    replace RA := Lib.hid (RA.out.below B)
    replace RB := Lib.hid (RB.out.below B)
    replace T := Lib.hid (T.out.trans (B.mono T.out.size))
    clear hb B
    have RX := Lib.hid hown.rd
    have QX := Lib.hid hown2.rd
    clear hown hown2
    have q0_1 := allocKeep1 q0
    have q1_1 := allocKeep1 q1
    have q2_1 := allocKeep1 q2
    have q3_1 := allocKeep1 q3
    go_wp2_with fail
    clear q0_1 q1_1 q2_1 q3_1
    refine (h4.out _ _ _ _ _ (RX.out.below (by repeat (first | exact Below.refl _ _ | refine Below.setCell ?_ (by simp) _ | refine Below.alloc ?_ (by simp <;> omega) _ | refine below_drewN ?_ _ | refine Below.drew ?_))) (QX.out.below (by repeat (first | exact Below.refl _ _ | refine Below.setCell ?_ (by simp) _ | refine Below.alloc ?_ (by simp <;> omega) _ | refine below_drewN ?_ _ | refine Below.drew ?_)))).mono ?_
    rintro e w5 ⟨rfl, hb⟩
    have B := below_then (a := w4) (by repeat (first | exact Below.refl _ _ | refine Below.setCell ?_ (by simp) _ | refine Below.alloc ?_ (by simp <;> omega) _ | refine below_drewN ?_ _ | refine Below.drew ?_)) hb
    replace q0 : w5.cell? ⟨w.heap.size, 0, none⟩ = some (.int .i64 k) := cellKeep B q0
    replace q1 : w5.cell? ⟨w.heap.size, 1, none⟩ = some (.slice A rs.length c) := cellKeep B q1
    replace q2 : w5.cell? ⟨w.heap.size, 2, none⟩ = some (.slice B0 qs.length d) := cellKeep B q2
    replace q3 : w5.cell? ⟨w.heap.size, 3, none⟩ = some (.int .i64 t) := cellKeep B q3
    have x0 : w5.cell? ⟨w4.heap.size, 0, none⟩ = some (.int .i64 k) := cellKeep hb (by simp [go_sem])
    have x1 : w5.cell? ⟨w4.heap.size, 1, none⟩ = some (.slice AX rs.length cX) := cellKeep hb (by simp [go_sem])
    have x2 : w5.cell? ⟨w4.heap.size, 2, none⟩ = some (.slice BX qs.length dX) := cellKeep hb (by simp [go_sem])
    have x3 : w5.cell? ⟨w4.heap.size, 3, none⟩ = some (.int .i64 t) := cellKeep hb (by simp [go_sem])
    replace RA := Lib.hid (RA.out.below B)
    replace RB := Lib.hid (RB.out.below B)
    replace RX := Lib.hid (RX.out.below B)
    replace QX := Lib.hid (QX.out.below B)
    replace T := Lib.hid (T.out.trans (B.mono T.out.size))
    clear hb B
    go_wp2_with fail
    go_region_held3 (fun w' => w'.cell? ⟨w.heap.size, 0, none⟩ = some (.int .i64 k) ∧ w'.cell? ⟨w.heap.size, 1, none⟩ = some (.slice A rs.length c) ∧ w'.cell? ⟨w.heap.size, 2, none⟩ = some (.slice B0 qs.length d) ∧ w'.cell? ⟨w.heap.size, 3, none⟩ = some (.int .i64 t) ∧ w'.cell? ⟨w4.heap.size, 0, none⟩ = some (.int .i64 k) ∧ w'.cell? ⟨w4.heap.size, 1, none⟩ = some (.slice AX rs.length cX) ∧ w'.cell? ⟨w4.heap.size, 2, none⟩ = some (.slice BX qs.length dX) ∧ w'.cell? ⟨w4.heap.size, 3, none⟩ = some (.int .i64 t) ∧ Below w5.heap.size w5 w') (first | exact ⟨q0, q1, q2, q3, x0, x1, x2, x3, (by repeat (first | exact Below.refl _ _ | refine Below.setCell ?_ (by simp) _ | refine Below.alloc ?_ (by simp <;> omega) _ | refine below_drewN ?_ _ | refine Below.drew ?_))⟩ | assumption | exact held8 (by assumption) hba | exact held8 (by assumption) hbc) (first | (go_simp; go_at_call 25; refine (h2.out _ (RA.out.below (held8_below (by assumption))) (RB.out.below (held8_below (by assumption)))).mono ?_; rintro e wa ⟨AU, cU, BU, dU, rfl, hown, hown2, hba⟩) | (go_simp; go_at_call 18; refine (eqWork_t _ _ _ _ _ _ _ _ _ _ _ _ _ (RX.out.below (held8_below (by assumption))) (QX.out.below (held8_below (by assumption))) hown.rd hown2.rd (by omega) (by omega)).mono ?_; rintro e w6 ⟨rfl, hbc⟩))
    all_goals
      have hS : w6.cell? ⟨w.heap.size, 0, none⟩ = some (.int .i64 k) ∧ w6.cell? ⟨w.heap.size, 1, none⟩ = some (.slice A rs.length c) ∧ w6.cell? ⟨w.heap.size, 2, none⟩ = some (.slice B0 qs.length d) ∧ w6.cell? ⟨w.heap.size, 3, none⟩ = some (.int .i64 t) ∧ w6.cell? ⟨w4.heap.size, 0, none⟩ = some (.int .i64 k) ∧ w6.cell? ⟨w4.heap.size, 1, none⟩ = some (.slice AX rs.length cX) ∧ w6.cell? ⟨w4.heap.size, 2, none⟩ = some (.slice BX qs.length dX) ∧ w6.cell? ⟨w4.heap.size, 3, none⟩ = some (.int .i64 t) ∧ Below w5.heap.size w5 w6 := by assumption
      have B := held8_below hS
      replace q0 : w6.cell? ⟨w.heap.size, 0, none⟩ = some (.int .i64 k) := cellKeep B q0
      replace q1 : w6.cell? ⟨w.heap.size, 1, none⟩ = some (.slice A rs.length c) := cellKeep B q1
      replace q2 : w6.cell? ⟨w.heap.size, 2, none⟩ = some (.slice B0 qs.length d) := cellKeep B q2
      replace q3 : w6.cell? ⟨w.heap.size, 3, none⟩ = some (.int .i64 t) := cellKeep B q3
      replace x0 : w6.cell? ⟨w4.heap.size, 0, none⟩ = some (.int .i64 k) := cellKeep B x0
      replace x1 : w6.cell? ⟨w4.heap.size, 1, none⟩ = some (.slice AX rs.length cX) := cellKeep B x1
      replace x2 : w6.cell? ⟨w4.heap.size, 2, none⟩ = some (.slice BX qs.length dX) := cellKeep B x2
      replace x3 : w6.cell? ⟨w4.heap.size, 3, none⟩ = some (.int .i64 t) := cellKeep B x3
      replace RA := Lib.hid (RA.out.below B)
      replace RB := Lib.hid (RB.out.below B)
      replace RX := Lib.hid (RX.out.below B)
      replace QX := Lib.hid (QX.out.below B)
      replace T := Lib.hid (T.out.trans (B.mono T.out.size))
      clear hS B
      go_wp2_with fail
      go_ret
      exact ⟨rfl, T.out.trans ((show Below w6.heap.size w6 _ from (by repeat (first | exact Below.refl _ _ | refine Below.setCell ?_ (by simp) _ | refine Below.alloc ?_ (by simp <;> omega) _ | refine below_drewN ?_ _ | refine Below.drew ?_))).mono T.out.size)⟩

set_option maxRecDepth 100000 in
theorem lifted (os : Os) (started : os.Started) (H : Type) (enc : TypeId × Value → H) :
    ReturnsInHanded {} Try.checked os 4 .any (Rows.fnExactWorkOkSpec.pre6 enc Try.prog Try.f4 Rows.fnExactWorkOkRow.domain false) (Rows.fnExactWorkOkSpec.post enc Try.prog Try.f4 false true false false) := by
  refine returnsInHanded_of_change (C := Try.checked) Try.own started (by kernel_rfl) Try.func4
    (ChangeSpec.witness6 (enc := enc) (C := Try.checked) false ⟨#[], #[.agg #[.int .i64 0, .slice none 0 0, .slice none 0 0, .int .i64 0]], []⟩ 8 (by kernel_rfl) (by kernel_rfl) (by kernel_rfl) (by kernel_rfl)) ?_
  intro W base args ds gs before hval0 hW hcnd _
  have hval : ∀ (j : Nat) t v, Try.f4.params[j]? = some t → args[j]? = some v → Value.okWide Try.prog W .any base t v := hval0
  have hW' := hW
  have hlt : ∀ x ∈ before, x.block < W.heap.size := fun x hx => hW.lt x hx
  obtain ⟨p, q, hA0, hV, rfl, hfz, hnd⟩ := hW
  have hA : DataW.TrodAll enc Try.prog W 0 (fun _ => true) true Try.f4.params.toList args.toList ds p := hA0
  rw [Try.params4] at hA hval
  obtain ⟨v0, d0, rfl, rfl, h0⟩ := trodAll_one hA
  clear hA0 hval0 hfz hnd
  obtain ⟨k0, A0, c0, rs0, B0, d0, qs0, n0, rfl, hr0⟩ := openWork (hval 0 40 v0 rfl rfl) h0
  refine (walk k0 A0 c0 rs0 B0 d0 qs0 n0 W hr0).mono fun e W' ⟨he, hg⟩ => ?_
  subst he
  exact ⟨_, rfl, lawPost Try.laidOut (by kernel_rfl) (by kernel_rfl) Try.boolType rfl rfl hW' hg⟩

theorem proved : Rows.FnExactWorkOkSaid :=
  OpenClaim.holds_of_wide 4 Try.f4 rfl rfl rfl rfl rfl rfl rfl ⟨rfl, rfl, rfl, rfl, rfl⟩ rfl rfl rfl rfl rfl (by kernel_rfl) Try.func4 (by kernel_rfl)
    (of_decide_eq_true (by kernel_rfl)) (by unfold Func.isWrapper; first | (rw [if_pos (by decide +kernel)]; kernel_rfl) | (rw [if_neg (by decide +kernel)]; exact ⟨rfl, rfl⟩))
    (fun os started H enc _ => lifted os started H enc)
#print axioms proved
end Go.Proofs.Ytoijojdegohknaa.lawExactWorkOk
