/-
  The law FnExactLastStep returns true for every input, and leaves its arguments as they were.
  Conditions: none.
-/
import Derived.Test.YtoijojdegohknaaOpen
import Derived.Test.YtoijojdegohknaaFirst
import Derived.Test.YtoijojdegohknaaOpen2
namespace Go.Proofs.Ytoijojdegohknaa.lawExactLastStep
open Go.ChangeShapes Go.WideShapes Go.ChangeAt Go.RowKit
set_option linter.unusedVariables false

set_option maxRecDepth 100000 in
set_option maxHeartbeats 4000000 in
theorem walk (k : Int) (A : Option Addr) (c : Nat) (rs : List M.Rule) (l : List UInt8) (w : World) (hr : (-9223372036854775808 ≤ k ∧ k ≤ 9223372036854775807) ∧ rs.length ≤ 9223372036854775807 ∧ Rd w 2 A rs.length (ruls rs) ∧ ∀ r ∈ rs, r.left.length ≤ 9223372036854775807 ∧ r.right.length ≤ 9223372036854775807) (hll0 : l.length ≤ 9223372036854775807) :
    Calls Try.prog 6 #[.agg #[.int .i64 k, .slice A rs.length c], .string ⟨l.toArray⟩] w fun e w' => e = .returned (.bool true) ∧ Below w.heap.size w w' := by
  obtain ⟨hk, hl, hA, hs⟩ := hr
  have RA := Lib.hid hA
  by_cases hbig : 1048576 < l.length
  case pos =>
    clear hA hs
    go_enter Try.func6, Try.ntmps6
    go_wp2
    go_ret
    exact ⟨rfl, (by repeat (first | exact Below.refl _ _ | refine Below.alloc ?_ (by simp <;> omega) _))⟩
  case neg =>
  have hll : l.length ≤ 1048576 := by omega
  have h1 := Lib.hid (fun W h => szSystem_c k A c rs 1048576 W h hl hs (by omega) (by omega))
  by_cases hz : M.szRules rs 1048576 < 0
  case pos =>
    rw [if_pos hz] at h1
    clear hs hA hz
    go_enter Try.func6, Try.ntmps6
    go_wp2_with fail
    refine (h1.out _ (RA.out.below (by repeat (first | exact Below.refl _ _ | refine Below.setCell ?_ (by simp) _ | refine Below.alloc ?_ (by simp <;> omega) _ | refine below_drewN ?_ _ | refine Below.drew ?_)))).mono ?_
    rintro e w1 ⟨rfl, hb⟩
    have B := below_then (a := w) (by repeat (first | exact Below.refl _ _ | refine Below.setCell ?_ (by simp) _ | refine Below.alloc ?_ (by simp <;> omega) _ | refine below_drewN ?_ _ | refine Below.drew ?_)) hb
    have q0 : w1.cell? ⟨w.heap.size, 0, none⟩ = some (.int .i64 k) := cellKeep hb (by simp [go_sem])
    have q1 : w1.cell? ⟨w.heap.size, 1, none⟩ = some (.slice A rs.length c) := cellKeep hb (by simp [go_sem])
    replace RA := Lib.hid (RA.out.below B)
    have T := Lib.hid B
    clear hb B
    go_wp2_with fail
    go_ret
    exact ⟨rfl, T.out.trans ((show Below w1.heap.size w1 _ from (by repeat (first | exact Below.refl _ _ | refine Below.setCell ?_ (by simp) _ | refine Below.alloc ?_ (by simp <;> omega) _ | refine below_drewN ?_ _ | refine Below.drew ?_))).mono T.out.size)⟩
  case neg =>
    rw [if_neg hz] at h1
    obtain ⟨hl2, hs2, _⟩ := M.szRules_ok hz
    have hl3 : rs.length ≤ 1048576 := by omega
    have hs3 : ∀ r ∈ rs, r.left.length ≤ 1048576 ∧ r.right.length ≤ 1048576 := fun r hr => by have := hs2 r hr; omega
    have h2 := Lib.hid (fun W h => toSystem_c k A c rs W h hl3)
    have h3 := Lib.hid (fun W A c h => spec_LastStep_c k A c rs l W h hl3 hs3 hll)
    have h4 := Lib.hid (fun W A c h => impl_LastStep_c k A c rs l W h hl3 hs3 hll)
    generalize M.szRules rs 1048576 = z at *
    generalize M.LastStep k rs l = v at *
    obtain ⟨⟨zr, zp⟩, zb⟩ := v
    simp only at h3 h4
    have h5 := Lib.hid (fun W => eqStep_t zr zp W)
    clear hs hA hs2 hs3
    cases zb
    all_goals
      go_enter Try.func6, Try.ntmps6
      go_wp2_with fail
      refine (h1.out _ (RA.out.below (by repeat (first | exact Below.refl _ _ | refine Below.setCell ?_ (by simp) _ | refine Below.alloc ?_ (by simp <;> omega) _ | refine below_drewN ?_ _ | refine Below.drew ?_)))).mono ?_
      rintro e w1 ⟨rfl, hb⟩
      have B := below_then (a := w) (by repeat (first | exact Below.refl _ _ | refine Below.setCell ?_ (by simp) _ | refine Below.alloc ?_ (by simp <;> omega) _ | refine below_drewN ?_ _ | refine Below.drew ?_)) hb
      have q0 : w1.cell? ⟨w.heap.size, 0, none⟩ = some (.int .i64 k) := cellKeep hb (by simp [go_sem])
      have q1 : w1.cell? ⟨w.heap.size, 1, none⟩ = some (.slice A rs.length c) := cellKeep hb (by simp [go_sem])
      replace RA := Lib.hid (RA.out.below B)
      have T := Lib.hid B
      clear hb B
      go_wp2_with fail
      refine (h2.out _ (RA.out.below (by repeat (first | exact Below.refl _ _ | refine Below.setCell ?_ (by simp) _ | refine Below.alloc ?_ (by simp <;> omega) _ | refine below_drewN ?_ _ | refine Below.drew ?_)))).mono ?_
      rintro e w2 ⟨AS, cS, rfl, hown, hb⟩
      have B := below_then (a := w1) (by repeat (first | exact Below.refl _ _ | refine Below.setCell ?_ (by simp) _ | refine Below.alloc ?_ (by simp <;> omega) _ | refine below_drewN ?_ _ | refine Below.drew ?_)) hb
      replace q0 : w2.cell? ⟨w.heap.size, 0, none⟩ = some (.int .i64 k) := cellKeep B q0
      replace q1 : w2.cell? ⟨w.heap.size, 1, none⟩ = some (.slice A rs.length c) := cellKeep B q1
      replace RA := Lib.hid (RA.out.below B)
      replace T := Lib.hid (T.out.trans (B.mono T.out.size))
      clear hb B
      have RS := Lib.hid hown.rd
      clear hown
      go_wp2_with fail
      refine (h3.out _ _ _ RS.out).mono ?_
      rintro e w3 ⟨rfl, hb⟩
      have B := below_then (a := w2) (by repeat (first | exact Below.refl _ _ | refine Below.setCell ?_ (by simp) _ | refine Below.alloc ?_ (by simp <;> omega) _ | refine below_drewN ?_ _ | refine Below.drew ?_)) hb
      replace q0 : w3.cell? ⟨w.heap.size, 0, none⟩ = some (.int .i64 k) := cellKeep B q0
      replace q1 : w3.cell? ⟨w.heap.size, 1, none⟩ = some (.slice A rs.length c) := cellKeep B q1
      replace RA := Lib.hid (RA.out.below B)
      replace RS := Lib.hid (RS.out.below B)
      replace T := Lib.hid (T.out.trans (B.mono T.out.size))
      clear hb B
      have q0_1 := allocKeep1 q0
      have q1_1 := allocKeep1 q1
      go_wp2_with fail
      clear q0_1 q1_1
      refine (h2.out _ (RA.out.below (by repeat (first | exact Below.refl _ _ | refine Below.setCell ?_ (by simp) _ | refine Below.alloc ?_ (by simp <;> omega) _ | refine below_drewN ?_ _ | refine Below.drew ?_)))).mono ?_
      rintro e w4 ⟨AX, cX, rfl, hown, hb⟩
      have B := below_then (a := w3) (by repeat (first | exact Below.refl _ _ | refine Below.setCell ?_ (by simp) _ | refine Below.alloc ?_ (by simp <;> omega) _ | refine below_drewN ?_ _ | refine Below.drew ?_)) hb
      replace q0 : w4.cell? ⟨w.heap.size, 0, none⟩ = some (.int .i64 k) := cellKeep B q0
      replace q1 : w4.cell? ⟨w.heap.size, 1, none⟩ = some (.slice A rs.length c) := cellKeep B q1
      have u0 : w4.cell? ⟨w3.heap.size, 0, none⟩ = some (.int .i64 zr) := cellKeep hb (by simp [go_sem])
      have u1 : w4.cell? ⟨w3.heap.size, 1, none⟩ = some (.int .i64 zp) := cellKeep hb (by simp [go_sem])
      replace RA := Lib.hid (RA.out.below B)
      replace T := Lib.hid (T.out.trans (B.mono T.out.size))
      clear hb B
      have RX := Lib.hid hown.rd
      clear hown
      have q0_1 := allocKeep1 q0
      have q1_1 := allocKeep1 q1
      have u0_1 := allocKeep1 u0
      have u1_1 := allocKeep1 u1
      go_wp2_with fail
      clear q0_1 q1_1 u0_1 u1_1
      refine (h4.out _ _ _ (RX.out.below (by repeat (first | exact Below.refl _ _ | refine Below.setCell ?_ (by simp) _ | refine Below.alloc ?_ (by simp <;> omega) _ | refine below_drewN ?_ _ | refine Below.drew ?_)))).mono ?_
      rintro e w5 ⟨rfl, hb⟩
      have B := below_then (a := w4) (by repeat (first | exact Below.refl _ _ | refine Below.setCell ?_ (by simp) _ | refine Below.alloc ?_ (by simp <;> omega) _ | refine below_drewN ?_ _ | refine Below.drew ?_)) hb
      replace q0 : w5.cell? ⟨w.heap.size, 0, none⟩ = some (.int .i64 k) := cellKeep B q0
      replace q1 : w5.cell? ⟨w.heap.size, 1, none⟩ = some (.slice A rs.length c) := cellKeep B q1
      replace u0 : w5.cell? ⟨w3.heap.size, 0, none⟩ = some (.int .i64 zr) := cellKeep B u0
      replace u1 : w5.cell? ⟨w3.heap.size, 1, none⟩ = some (.int .i64 zp) := cellKeep B u1
      have x0 : w5.cell? ⟨w4.heap.size, 0, none⟩ = some (.int .i64 k) := cellKeep hb (by simp [go_sem])
      have x1 : w5.cell? ⟨w4.heap.size, 1, none⟩ = some (.slice AX rs.length cX) := cellKeep hb (by simp [go_sem])
      replace RA := Lib.hid (RA.out.below B)
      replace RX := Lib.hid (RX.out.below B)
      replace T := Lib.hid (T.out.trans (B.mono T.out.size))
      clear hb B
      have q0_1 := allocKeep1 q0
      have q1_1 := allocKeep1 q1
      have u0_1 := allocKeep1 u0
      have u1_1 := allocKeep1 u1
      have x0_1 := allocKeep1 x0
      have x1_1 := allocKeep1 x1
      go_wp2_with fail
      clear q0_1 q1_1 u0_1 u1_1 x0_1 x1_1
      refine (h5.out _).mono ?_
      rintro e w6 ⟨rfl, hb⟩
      have B := below_then (a := w5) (by repeat (first | exact Below.refl _ _ | refine Below.setCell ?_ (by simp) _ | refine Below.alloc ?_ (by simp <;> omega) _ | refine below_drewN ?_ _ | refine Below.drew ?_)) hb
      replace q0 : w6.cell? ⟨w.heap.size, 0, none⟩ = some (.int .i64 k) := cellKeep B q0
      replace q1 : w6.cell? ⟨w.heap.size, 1, none⟩ = some (.slice A rs.length c) := cellKeep B q1
      replace u0 : w6.cell? ⟨w3.heap.size, 0, none⟩ = some (.int .i64 zr) := cellKeep B u0
      replace u1 : w6.cell? ⟨w3.heap.size, 1, none⟩ = some (.int .i64 zp) := cellKeep B u1
      replace x0 : w6.cell? ⟨w4.heap.size, 0, none⟩ = some (.int .i64 k) := cellKeep B x0
      replace x1 : w6.cell? ⟨w4.heap.size, 1, none⟩ = some (.slice AX rs.length cX) := cellKeep B x1
      have v0 : w6.cell? ⟨w5.heap.size, 0, none⟩ = some (.int .i64 zr) := cellKeep hb (by simp [go_sem])
      have v1 : w6.cell? ⟨w5.heap.size, 1, none⟩ = some (.int .i64 zp) := cellKeep hb (by simp [go_sem])
      replace RA := Lib.hid (RA.out.below B)
      replace RX := Lib.hid (RX.out.below B)
      replace T := Lib.hid (T.out.trans (B.mono T.out.size))
      clear hb B
      go_wp2_with fail
      go_region_held3 (fun w' => w'.cell? ⟨w.heap.size, 0, none⟩ = some (.int .i64 k) ∧ w'.cell? ⟨w.heap.size, 1, none⟩ = some (.slice A rs.length c) ∧ w'.cell? ⟨w4.heap.size, 0, none⟩ = some (.int .i64 k) ∧ w'.cell? ⟨w4.heap.size, 1, none⟩ = some (.slice AX rs.length cX) ∧ Below w6.heap.size w6 w') (first | exact ⟨q0, q1, x0, x1, (by repeat (first | exact Below.refl _ _ | refine Below.setCell ?_ (by simp) _ | refine Below.alloc ?_ (by simp <;> omega) _ | refine below_drewN ?_ _ | refine Below.drew ?_))⟩ | assumption | exact held4 (by assumption) hba | exact held4 (by assumption) hbc) (first | (go_simp; go_at_call 29; refine (h2.out _ (RA.out.below (held4_below (by assumption)))).mono ?_; rintro e wa ⟨AU, cU, rfl, hown, hba⟩) | (go_simp; go_at_call 32; refine (eqSystem_t _ _ _ _ _ _ _ (RX.out.below (held4_below (by assumption))) hown.rd (by omega)).mono ?_; rintro e w7 ⟨rfl, hbc⟩))
      all_goals
        have hS : w7.cell? ⟨w.heap.size, 0, none⟩ = some (.int .i64 k) ∧ w7.cell? ⟨w.heap.size, 1, none⟩ = some (.slice A rs.length c) ∧ w7.cell? ⟨w4.heap.size, 0, none⟩ = some (.int .i64 k) ∧ w7.cell? ⟨w4.heap.size, 1, none⟩ = some (.slice AX rs.length cX) ∧ Below w6.heap.size w6 w7 := by assumption
        have B := held4_below hS
        replace q0 : w7.cell? ⟨w.heap.size, 0, none⟩ = some (.int .i64 k) := cellKeep B q0
        replace q1 : w7.cell? ⟨w.heap.size, 1, none⟩ = some (.slice A rs.length c) := cellKeep B q1
        replace u0 : w7.cell? ⟨w3.heap.size, 0, none⟩ = some (.int .i64 zr) := cellKeep B u0
        replace u1 : w7.cell? ⟨w3.heap.size, 1, none⟩ = some (.int .i64 zp) := cellKeep B u1
        replace x0 : w7.cell? ⟨w4.heap.size, 0, none⟩ = some (.int .i64 k) := cellKeep B x0
        replace x1 : w7.cell? ⟨w4.heap.size, 1, none⟩ = some (.slice AX rs.length cX) := cellKeep B x1
        replace v0 : w7.cell? ⟨w5.heap.size, 0, none⟩ = some (.int .i64 zr) := cellKeep B v0
        replace v1 : w7.cell? ⟨w5.heap.size, 1, none⟩ = some (.int .i64 zp) := cellKeep B v1
        replace RA := Lib.hid (RA.out.below B)
        replace RX := Lib.hid (RX.out.below B)
        replace T := Lib.hid (T.out.trans (B.mono T.out.size))
        clear hS B
        go_wp2_with fail
        go_ret
        exact ⟨rfl, T.out.trans ((show Below w7.heap.size w7 _ from (by repeat (first | exact Below.refl _ _ | refine Below.setCell ?_ (by simp) _ | refine Below.alloc ?_ (by simp <;> omega) _ | refine below_drewN ?_ _ | refine Below.drew ?_))).mono T.out.size)⟩

set_option maxRecDepth 100000 in
theorem lifted (os : Os) (started : os.Started) (H : Type) (enc : TypeId × Value → H) :
    ReturnsInHanded {} Try.checked os 6 .any (Rows.fnExactLastStepSpec.pre6 enc Try.prog Try.f6 Rows.fnExactLastStepRow.domain false) (Rows.fnExactLastStepSpec.post enc Try.prog Try.f6 false true false false) := by
  refine returnsInHanded_of_change (C := Try.checked) Try.own started (by kernel_rfl) Try.func6
    (ChangeSpec.witness6 (enc := enc) (C := Try.checked) false ⟨#[], #[.agg #[.int .i64 0, .slice none 0 0], .string ByteArray.empty], []⟩ 8 (by kernel_rfl) (by kernel_rfl) (by kernel_rfl) (by kernel_rfl)) ?_
  intro W base args ds gs before hval0 hW hcnd _
  have hval : ∀ (j : Nat) t v, Try.f6.params[j]? = some t → args[j]? = some v → Value.okWide Try.prog W .any base t v := hval0
  have hW' := hW
  have hlt : ∀ x ∈ before, x.block < W.heap.size := fun x hx => hW.lt x hx
  obtain ⟨p, q, hA0, hV, rfl, hfz, hnd⟩ := hW
  have hA : DataW.TrodAll enc Try.prog W 0 (fun _ => true) true Try.f6.params.toList args.toList ds p := hA0
  rw [Try.params6] at hA hval
  obtain ⟨v0, v1, d0, d1, p0, p1, rfl, rfl, rfl, h0, h1⟩ := trodAll_two hA
  clear hA0 hval0 hfz hnd
  obtain ⟨k0, A0, c0, rs0, rfl, hr0⟩ := openSystem (hval 0 38 v0 rfl rfl) h0
  obtain ⟨s1, rfl, rfl, rfl, hs1⟩ := Go.ChangeMaps.open_string Try.underlying9 (hval 1 9 v1 rfl rfl) h1
  obtain ⟨l1, rfl⟩ := bytesList s1
  have hl1 := bytesLen hs1
  refine (walk k0 A0 c0 rs0 l1 W hr0 hl1).mono fun e W' ⟨he, hg⟩ => ?_
  subst he
  exact ⟨_, rfl, lawPost Try.laidOut (by kernel_rfl) (by kernel_rfl) Try.boolType rfl rfl hW' hg⟩

theorem proved : Rows.FnExactLastStepSaid :=
  OpenClaim.holds_of_wide 6 Try.f6 rfl rfl rfl rfl rfl rfl rfl ⟨rfl, rfl, rfl, rfl, rfl⟩ rfl rfl rfl rfl rfl (by kernel_rfl) Try.func6 (by kernel_rfl)
    (of_decide_eq_true (by kernel_rfl)) (by unfold Func.isWrapper; first | (rw [if_pos (by decide +kernel)]; kernel_rfl) | (rw [if_neg (by decide +kernel)]; exact ⟨rfl, rfl⟩))
    (fun os started H enc _ => lifted os started H enc)
#print axioms proved
end Go.Proofs.Ytoijojdegohknaa.lawExactLastStep
