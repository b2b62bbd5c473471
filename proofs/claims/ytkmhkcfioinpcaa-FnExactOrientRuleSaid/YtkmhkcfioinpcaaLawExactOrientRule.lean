/-
  The law FnExactOrientRule returns true for every input, and leaves its arguments as they were.
  Conditions: none.
-/
import Derived.Test.YtkmhkcfioinpcaaOpen
import Derived.Test.YtkmhkcfioinpcaaSide
namespace Go.Proofs.Ytkmhkcfioinpcaa.lawExactOrientRule
open Go.ChangeShapes Go.WideShapes Go.ChangeAt Go.RowKit
set_option linter.unusedVariables false

set_option maxRecDepth 100000 in
set_option maxHeartbeats 4000000 in
theorem walk (k : Int) (r : M.Rule) (w : World) (hk : -9223372036854775808 ≤ k ∧ k ≤ 9223372036854775807) (hr : r.left.length ≤ 9223372036854775807 ∧ r.right.length ≤ 9223372036854775807) :
    Calls Try.prog 8 #[.int .i64 k, .agg #[.string ⟨r.left.toArray⟩, .string ⟨r.right.toArray⟩]] w fun e w' => e = .returned (.bool true) ∧ Below w.heap.size w w' := by
  obtain ⟨l, r⟩ := r
  obtain ⟨hl, hr⟩ := hr
  simp only
  have h1 := Lib.hid (fun W => szRule_c l r 1048576 W hl hr (by omega) (by omega))
  by_cases hz : M.szRule ⟨l, r⟩ 1048576 < 0
  case pos =>
    generalize M.szRule ⟨l, r⟩ 1048576 = z at *
    go_enter Try.func8, Try.ntmps8
    go_wp2_with fail
    refine (h1.out _).mono ?_
    rintro e w1 ⟨rfl, hb⟩
    have B := below_then (a := w) (by repeat (first | exact Below.refl _ _ | refine Below.setCell ?_ (by simp) _ | refine Below.alloc ?_ (by simp <;> omega) _ | refine below_drewN ?_ _ | refine Below.drew ?_)) hb
    have q0 : w1.cell? ⟨w.heap.size, 0, none⟩ = some (.string ⟨l.toArray⟩) := cellKeep hb (by simp [go_sem])
    have q1 : w1.cell? ⟨w.heap.size, 1, none⟩ = some (.string ⟨r.toArray⟩) := cellKeep hb (by simp [go_sem])
    have T := Lib.hid B
    clear hb B
    go_wp2_with fail
    go_ret
    exact ⟨rfl, T.out.trans ((show Below w1.heap.size w1 _ from (by repeat (first | exact Below.refl _ _ | refine Below.setCell ?_ (by simp) _ | refine Below.alloc ?_ (by simp <;> omega) _ | refine below_drewN ?_ _ | refine Below.drew ?_))).mono T.out.size)⟩
  case neg =>
    have hb0 := M.szRule_ok hz
    simp at hb0
    have h2 := Lib.hid (fun W => toRule_c l r W)
    have h3 := Lib.hid (fun W => spec_OrientRule_c k l r W (by omega) (by omega))
    have h4 := Lib.hid (fun W => impl_OrientRule_c k l r W (by omega) (by omega))
    clear hb0
    generalize M.szRule ⟨l, r⟩ 1048576 = z at *
    generalize M.OrientRule k ⟨l, r⟩ = x at *
    obtain ⟨⟨zl, zr⟩, zb⟩ := x
    simp only at h3 h4
    have h5 := Lib.hid (fun W => eqRule_t zl zr W)
    cases zb
    all_goals
      go_enter Try.func8, Try.ntmps8
      go_wp2_with fail
      refine (h1.out _).mono ?_
      rintro e w1 ⟨rfl, hb⟩
      have B := below_then (a := w) (by repeat (first | exact Below.refl _ _ | refine Below.setCell ?_ (by simp) _ | refine Below.alloc ?_ (by simp <;> omega) _ | refine below_drewN ?_ _ | refine Below.drew ?_)) hb
      have q0 : w1.cell? ⟨w.heap.size, 0, none⟩ = some (.string ⟨l.toArray⟩) := cellKeep hb (by simp [go_sem])
      have q1 : w1.cell? ⟨w.heap.size, 1, none⟩ = some (.string ⟨r.toArray⟩) := cellKeep hb (by simp [go_sem])
      have T := Lib.hid B
      clear hb B
      go_wp2_with fail
      refine (h2.out _).mono ?_
      rintro e w2 ⟨rfl, hb⟩
      have B := below_then (a := w1) (by repeat (first | exact Below.refl _ _ | refine Below.setCell ?_ (by simp) _ | refine Below.alloc ?_ (by simp <;> omega) _ | refine below_drewN ?_ _ | refine Below.drew ?_)) hb
      replace q0 : w2.cell? ⟨w.heap.size, 0, none⟩ = some (.string ⟨l.toArray⟩) := cellKeep B q0
      replace q1 : w2.cell? ⟨w.heap.size, 1, none⟩ = some (.string ⟨r.toArray⟩) := cellKeep B q1
      replace T := Lib.hid (T.out.trans (B.mono T.out.size))
      clear hb B
      go_wp2_with fail
      refine (h3.out _).mono ?_
      rintro e w3 ⟨rfl, hb⟩
      have B := below_then (a := w2) (by repeat (first | exact Below.refl _ _ | refine Below.setCell ?_ (by simp) _ | refine Below.alloc ?_ (by simp <;> omega) _ | refine below_drewN ?_ _ | refine Below.drew ?_)) hb
      replace q0 : w3.cell? ⟨w.heap.size, 0, none⟩ = some (.string ⟨l.toArray⟩) := cellKeep B q0
      replace q1 : w3.cell? ⟨w.heap.size, 1, none⟩ = some (.string ⟨r.toArray⟩) := cellKeep B q1
      replace T := Lib.hid (T.out.trans (B.mono T.out.size))
      clear hb B
      have q0_1 := allocKeep1 q0
      have q1_1 := allocKeep1 q1
      go_wp2_with fail
      clear q0_1 q1_1
      refine (h2.out _).mono ?_
      rintro e w4 ⟨rfl, hb⟩
      have B := below_then (a := w3) (by repeat (first | exact Below.refl _ _ | refine Below.setCell ?_ (by simp) _ | refine Below.alloc ?_ (by simp <;> omega) _ | refine below_drewN ?_ _ | refine Below.drew ?_)) hb
      replace q0 : w4.cell? ⟨w.heap.size, 0, none⟩ = some (.string ⟨l.toArray⟩) := cellKeep B q0
      replace q1 : w4.cell? ⟨w.heap.size, 1, none⟩ = some (.string ⟨r.toArray⟩) := cellKeep B q1
      have u0 : w4.cell? ⟨w3.heap.size, 0, none⟩ = some (.string ⟨zl.toArray⟩) := cellKeep hb (by simp [go_sem])
      have u1 : w4.cell? ⟨w3.heap.size, 1, none⟩ = some (.string ⟨zr.toArray⟩) := cellKeep hb (by simp [go_sem])
      replace T := Lib.hid (T.out.trans (B.mono T.out.size))
      clear hb B
      go_wp2_with fail
      refine (h4.out _).mono ?_
      rintro e w5 ⟨rfl, hb⟩
      have B := below_then (a := w4) (by repeat (first | exact Below.refl _ _ | refine Below.setCell ?_ (by simp) _ | refine Below.alloc ?_ (by simp <;> omega) _ | refine below_drewN ?_ _ | refine Below.drew ?_)) hb
      replace q0 : w5.cell? ⟨w.heap.size, 0, none⟩ = some (.string ⟨l.toArray⟩) := cellKeep B q0
      replace q1 : w5.cell? ⟨w.heap.size, 1, none⟩ = some (.string ⟨r.toArray⟩) := cellKeep B q1
      replace u0 : w5.cell? ⟨w3.heap.size, 0, none⟩ = some (.string ⟨zl.toArray⟩) := cellKeep B u0
      replace u1 : w5.cell? ⟨w3.heap.size, 1, none⟩ = some (.string ⟨zr.toArray⟩) := cellKeep B u1
      replace T := Lib.hid (T.out.trans (B.mono T.out.size))
      clear hb B
      have q0_1 := allocKeep1 q0
      have q1_1 := allocKeep1 q1
      have u0_1 := allocKeep1 u0
      have u1_1 := allocKeep1 u1
      go_wp2_with fail
      clear q0_1 q1_1 u0_1 u1_1
      refine (h5.out _).mono ?_
      rintro e w6 ⟨rfl, hb⟩
      have B := below_then (a := w5) (by repeat (first | exact Below.refl _ _ | refine Below.setCell ?_ (by simp) _ | refine Below.alloc ?_ (by simp <;> omega) _ | refine below_drewN ?_ _ | refine Below.drew ?_)) hb
      replace q0 : w6.cell? ⟨w.heap.size, 0, none⟩ = some (.string ⟨l.toArray⟩) := cellKeep B q0
      replace q1 : w6.cell? ⟨w.heap.size, 1, none⟩ = some (.string ⟨r.toArray⟩) := cellKeep B q1
      replace u0 : w6.cell? ⟨w3.heap.size, 0, none⟩ = some (.string ⟨zl.toArray⟩) := cellKeep B u0
      replace u1 : w6.cell? ⟨w3.heap.size, 1, none⟩ = some (.string ⟨zr.toArray⟩) := cellKeep B u1
      have v0 : w6.cell? ⟨w5.heap.size, 0, none⟩ = some (.string ⟨zl.toArray⟩) := cellKeep hb (by simp [go_sem])
      have v1 : w6.cell? ⟨w5.heap.size, 1, none⟩ = some (.string ⟨zr.toArray⟩) := cellKeep hb (by simp [go_sem])
      replace T := Lib.hid (T.out.trans (B.mono T.out.size))
      clear hb B
      go_wp2_with fail
      go_ret
      exact ⟨rfl, T.out.trans ((show Below w6.heap.size w6 _ from (by repeat (first | exact Below.refl _ _ | refine Below.setCell ?_ (by simp) _ | refine Below.alloc ?_ (by simp <;> omega) _ | refine below_drewN ?_ _ | refine Below.drew ?_))).mono T.out.size)⟩

set_option maxRecDepth 100000 in
theorem lifted (os : Os) (started : os.Started) (H : Type) (enc : TypeId × Value → H) :
    ReturnsInHanded {} Try.checked os 8 .any (Rows.fnExactOrientRuleSpec.pre6 enc Try.prog Try.f8 Rows.fnExactOrientRuleRow.domain false) (Rows.fnExactOrientRuleSpec.post enc Try.prog Try.f8 false true false false) := by
  refine returnsInHanded_of_change (C := Try.checked) Try.own started (by kernel_rfl) Try.func8
    (ChangeSpec.witness6 (enc := enc) (C := Try.checked) false ⟨#[], #[.int .i64 0, .agg #[.string ByteArray.empty, .string ByteArray.empty]], []⟩ 8 (by kernel_rfl) (by kernel_rfl) (by kernel_rfl) (by kernel_rfl)) ?_
  intro W base args ds gs before hval0 hW hcnd _
  have hval : ∀ (j : Nat) t v, Try.f8.params[j]? = some t → args[j]? = some v → Value.okWide Try.prog W .any base t v := hval0
  have hW' := hW
  have hlt : ∀ x ∈ before, x.block < W.heap.size := fun x hx => hW.lt x hx
  obtain ⟨p, q, hA0, hV, rfl, hfz, hnd⟩ := hW
  have hA : DataW.TrodAll enc Try.prog W 0 (fun _ => true) true Try.f8.params.toList args.toList ds p := hA0
  rw [Try.params8] at hA hval
  obtain ⟨v0, v1, d0, d1, p0, p1, rfl, rfl, rfl, h0, h1⟩ := trodAll_two hA
  clear hA0 hval0 hfz hnd
  obtain ⟨n0, rfl, rfl, rfl, wf0⟩ := open_int Try.underlying3 (hval 0 3 v0 rfl rfl) h0
  have hn0 := intBounds wf0
  obtain ⟨r1, rfl, hr1⟩ := openRule (hval 1 28 v1 rfl rfl) h1
  refine (walk n0 r1 W hn0 hr1).mono fun e W' ⟨he, hg⟩ => ?_
  subst he
  exact ⟨_, rfl, lawPost Try.laidOut (by kernel_rfl) (by kernel_rfl) Try.boolType rfl rfl hW' hg⟩

theorem proved : Rows.FnExactOrientRuleSaid :=
  OpenClaim.holds_of_wide 8 Try.f8 rfl rfl rfl rfl rfl rfl rfl ⟨rfl, rfl, rfl, rfl, rfl⟩ rfl rfl rfl rfl rfl (by kernel_rfl) Try.func8 (by kernel_rfl)
    (of_decide_eq_true (by kernel_rfl)) (by unfold Func.isWrapper; first | (rw [if_pos (by decide +kernel)]; kernel_rfl) | (rw [if_neg (by decide +kernel)]; exact ⟨rfl, rfl⟩))
    (fun os started H enc _ => lifted os started H enc)
#print axioms proved
end Go.Proofs.Ytkmhkcfioinpcaa.lawExactOrientRule
