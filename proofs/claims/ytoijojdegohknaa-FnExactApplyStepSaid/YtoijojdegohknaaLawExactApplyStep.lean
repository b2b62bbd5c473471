/-
  The law FnExactApplyStep returns true for every input, and leaves its arguments as they were.
  Conditions: none.
-/
import Derived.Test.YtoijojdegohknaaOpen
import Derived.Test.YtoijojdegohknaaApply
import Derived.Test.YtoijojdegohknaaOpen3
namespace Go.Proofs.Ytoijojdegohknaa.lawExactApplyStep
open Go.ChangeShapes Go.WideShapes Go.ChangeAt Go.RowKit
set_option linter.unusedVariables false

set_option maxRecDepth 100000 in
set_option maxHeartbeats 4000000 in
theorem walk (k : Int) (A : Option Addr) (c : Nat) (rs : List M.Rule) (l : List UInt8) (x : M.Step) (w : World) (hr : (-9223372036854775808 ≤ k ∧ k ≤ 9223372036854775807) ∧ rs.length ≤ 9223372036854775807 ∧ Rd w 2 A rs.length (ruls rs) ∧ ∀ r ∈ rs, r.left.length ≤ 9223372036854775807 ∧ r.right.length ≤ 9223372036854775807) (hll0 : l.length ≤ 9223372036854775807) (hx : True) :
    Calls Try.prog 8 #[.agg #[.int .i64 k, .slice A rs.length c], .string ⟨l.toArray⟩, .agg #[.int .i64 x.rule, .int .i64 x.place]] w fun e w' => e = .returned (.bool true) ∧ Below w.heap.size w w' := by
  obtain ⟨hk, hl, hA, hs⟩ := hr
  have RA := Lib.hid hA
  obtain ⟨xr, xp⟩ := x
  simp only
  by_cases hbig : 1048576 < l.length
  case pos =>
    clear hA hs
    go_enter Try.func8, Try.ntmps8
    go_wp2
    go_ret
    exact ⟨rfl, (by repeat (first | exact Below.refl _ _ | refine Below.alloc ?_ (by simp <;> omega) _))⟩
  case neg =>
  have hll : l.length ≤ 1048576 := by omega
  have h1 := Lib.hid (fun W h => szSystem_c k A c rs 1048576 W h hl hs (by omega) (by omega))
  by_cases hz : M.szRules rs 1048576 < 0
  case pos =>
    rw [if_pos hz] at h1
    clear hs hA hz
    go_enter Try.func8, Try.ntmps8
    go_wp2_with fail
    refine (h1.out _ (RA.out.below (by repeat (first | exact Below.refl _ _ | refine Below.setCell ?_ (by simp) _ | refine Below.alloc ?_ (by simp <;> omega) _ | refine below_drewN ?_ _ | refine Below.drew ?_)))).mono ?_
    rintro e w1 ⟨rfl, hb⟩
    have B := below_then (a := w) (by repeat (first | exact Below.refl _ _ | refine Below.setCell ?_ (by simp) _ | refine Below.alloc ?_ (by simp <;> omega) _ | refine below_drewN ?_ _ | refine Below.drew ?_)) hb
    have q0 : w1.cell? ⟨w.heap.size, 0, none⟩ = some (.int .i64 k) := cellKeep hb (by simp [go_sem])
    have q1 : w1.cell? ⟨w.heap.size, 1, none⟩ = some (.slice A rs.length c) := cellKeep hb (by simp [go_sem])
    have p0 : w1.cell? ⟨w.heap.size + 1, 0, none⟩ = some (.int .i64 xr) := cellKeep hb (by simp [go_sem])
    have p1 : w1.cell? ⟨w.heap.size + 1, 1, none⟩ = some (.int .i64 xp) := cellKeep hb (by simp [go_sem])
    replace RA := Lib.hid (RA.out.below B)
    have T := Lib.hid B
    clear hb B
    go_wp2_with fail
    go_ret
    exact ⟨rfl, T.out.trans ((show Below w1.heap.size w1 _ from (by repeat (first | exact Below.refl _ _ | refine Below.setCell ?_ (by simp) _ | refine Below.alloc ?_ (by simp <;> omega) _ | refine below_drewN ?_ _ | refine Below.drew ?_))).mono T.out.size)⟩
  case neg =>
    rw [if_neg hz] at h1
    obtain ⟨hl2, hs2, _⟩ := M.szRules_ok hz
    have hl3 : rs.length ≤ 1048576 := by omega
    have hs3 : ∀ r ∈ rs, r.left.length ≤ 1048576 ∧ r.right.length ≤ 1048576 := fun r hr => by have := hs2 r hr; omega
    have h2 := Lib.hid (fun W h => toSystem_c k A c rs W h hl3)
    have h6 := Lib.hid (fun W => toStep_c xr xp W)
    have h3 := Lib.hid (fun W A c h => spec_ApplyStep_c k A c rs l ⟨xr, xp⟩ W h hl3 hs3 hll)
    have h4 := Lib.hid (fun W A c h => impl_ApplyStep_c k A c rs l ⟨xr, xp⟩ W h hl3 hs3 hll)
    generalize M.szRules rs 1048576 = z at *
    generalize M.ApplyStep k rs l ⟨xr, xp⟩ = v at *
    obtain ⟨zs, zb⟩ := v
    simp only at h3 h4
    clear hs hA hs2 hs3
    cases zb
    all_goals
      go_enter Try.func8, Try.ntmps8
      go_wp2_with fail
      refine (h1.out _ (RA.out.below (by repeat (first | exact Below.refl _ _ | refine Below.setCell ?_ (by simp) _ | refine Below.alloc ?_ (by simp <;> omega) _ | refine below_drewN ?_ _ | refine Below.drew ?_)))).mono ?_
      rintro e w1 ⟨rfl, hb⟩
      have B := below_then (a := w) (by repeat (first | exact Below.refl _ _ | refine Below.setCell ?_ (by simp) _ | refine Below.alloc ?_ (by simp <;> omega) _ | refine below_drewN ?_ _ | refine Below.drew ?_)) hb
      have q0 : w1.cell? ⟨w.heap.size, 0, none⟩ = some (.int .i64 k) := cellKeep hb (by simp [go_sem])
      have q1 : w1.cell? ⟨w.heap.size, 1, none⟩ = some (.slice A rs.length c) := cellKeep hb (by simp [go_sem])
      have p0 : w1.cell? ⟨w.heap.size + 1, 0, none⟩ = some (.int .i64 xr) := cellKeep hb (by simp [go_sem])
      have p1 : w1.cell? ⟨w.heap.size + 1, 1, none⟩ = some (.int .i64 xp) := cellKeep hb (by simp [go_sem])
      replace RA := Lib.hid (RA.out.below B)
      have T := Lib.hid B
      clear hb B
      go_wp2_with fail
      go_region_held3 (fun w' => w'.cell? ⟨w.heap.size, 0, none⟩ = some (.int .i64 k) ∧ w'.cell? ⟨w.heap.size, 1, none⟩ = some (.slice A rs.length c) ∧ w'.cell? ⟨w.heap.size + 1, 0, none⟩ = some (.int .i64 xr) ∧ w'.cell? ⟨w.heap.size + 1, 1, none⟩ = some (.int .i64 xp) ∧ Below w1.heap.size w1 w') (first | exact ⟨q0, q1, p0, p1, (by repeat (first | exact Below.refl _ _ | refine Below.setCell ?_ (by simp) _ | refine Below.alloc ?_ (by simp <;> omega) _ | refine below_drewN ?_ _ | refine Below.drew ?_))⟩ | assumption | exact held4 (by assumption) hba | exact held4 (by assumption) hbb | exact held4 (by assumption) hbc) (first | (go_simp; go_at_call 29; refine (h2.out _ (RA.out.below (held4_below (by assumption)))).mono ?_; rintro e wa ⟨AS, cS, rfl, hown, hba⟩) | (go_simp; go_at_call 42; refine (h6.out _).mono ?_; rintro e wb ⟨rfl, hbb⟩) | (go_simp; go_at_call 41; refine (h3.out _ _ _ (by first | exact hown.rd | exact hown.rd.below hbb)).mono ?_; rintro e w2 ⟨rfl, hbc⟩))
      all_goals
        have hS : w2.cell? ⟨w.heap.size, 0, none⟩ = some (.int .i64 k) ∧ w2.cell? ⟨w.heap.size, 1, none⟩ = some (.slice A rs.length c) ∧ w2.cell? ⟨w.heap.size + 1, 0, none⟩ = some (.int .i64 xr) ∧ w2.cell? ⟨w.heap.size + 1, 1, none⟩ = some (.int .i64 xp) ∧ Below w1.heap.size w1 w2 := by assumption
        have B := held4_below hS
        replace q0 : w2.cell? ⟨w.heap.size, 0, none⟩ = some (.int .i64 k) := cellKeep B q0
        replace q1 : w2.cell? ⟨w.heap.size, 1, none⟩ = some (.slice A rs.length c) := cellKeep B q1
        replace p0 : w2.cell? ⟨w.heap.size + 1, 0, none⟩ = some (.int .i64 xr) := cellKeep B p0
        replace p1 : w2.cell? ⟨w.heap.size + 1, 1, none⟩ = some (.int .i64 xp) := cellKeep B p1
        replace RA := Lib.hid (RA.out.below B)
        replace T := Lib.hid (T.out.trans (B.mono T.out.size))
        clear hS B
        go_wp2_with fail
        refine (h2.out _ (RA.out.below (by repeat (first | exact Below.refl _ _ | refine Below.setCell ?_ (by simp) _ | refine Below.alloc ?_ (by simp <;> omega) _ | refine below_drewN ?_ _ | refine Below.drew ?_)))).mono ?_
        rintro e w3 ⟨AX, cX, rfl, hown, hb⟩
        have B := below_then (a := w2) (by repeat (first | exact Below.refl _ _ | refine Below.setCell ?_ (by simp) _ | refine Below.alloc ?_ (by simp <;> omega) _ | refine below_drewN ?_ _ | refine Below.drew ?_)) hb
        replace q0 : w3.cell? ⟨w.heap.size, 0, none⟩ = some (.int .i64 k) := cellKeep B q0
        replace q1 : w3.cell? ⟨w.heap.size, 1, none⟩ = some (.slice A rs.length c) := cellKeep B q1
        replace p0 : w3.cell? ⟨w.heap.size + 1, 0, none⟩ = some (.int .i64 xr) := cellKeep B p0
        replace p1 : w3.cell? ⟨w.heap.size + 1, 1, none⟩ = some (.int .i64 xp) := cellKeep B p1
        replace RA := Lib.hid (RA.out.below B)
        replace T := Lib.hid (T.out.trans (B.mono T.out.size))
        clear hb B
        have RX := Lib.hid hown.rd
        clear hown
        have q0_1 := allocKeep1 q0
        have q1_1 := allocKeep1 q1
        have p0_1 := allocKeep1 p0
        have p1_1 := allocKeep1 p1
        go_wp2_with fail
        clear q0_1 q1_1 p0_1 p1_1
        go_region_held3 (fun w' => w'.cell? ⟨w3.heap.size, 0, none⟩ = some (.int .i64 k) ∧ w'.cell? ⟨w3.heap.size, 1, none⟩ = some (.slice AX rs.length cX) ∧ w'.cell? ⟨w.heap.size + 1, 0, none⟩ = some (.int .i64 xr) ∧ w'.cell? ⟨w.heap.size + 1, 1, none⟩ = some (.int .i64 xp) ∧ Below w3.heap.size w3 w') (first | exact ⟨(by simp [go_sem]), (by simp [go_sem]), allocKeep1 p0 _ , allocKeep1 p1 _ , (by repeat (first | exact Below.refl _ _ | refine Below.setCell ?_ (by simp) _ | refine Below.alloc ?_ (by simp <;> omega) _ | refine below_drewN ?_ _ | refine Below.drew ?_))⟩ | assumption | exact held4 (by assumption) hbb | exact held4 (by assumption) hbc) (first | (go_simp; go_at_call 42; refine (h6.out _).mono ?_; rintro e wb ⟨rfl, hbb⟩) | (go_simp; go_at_call 43; refine (h4.out _ _ _ (RX.out.below (held4_below (by assumption)))).mono ?_; rintro e w4 ⟨rfl, hbc⟩))
        all_goals
          have hS : w4.cell? ⟨w3.heap.size, 0, none⟩ = some (.int .i64 k) ∧ w4.cell? ⟨w3.heap.size, 1, none⟩ = some (.slice AX rs.length cX) ∧ w4.cell? ⟨w.heap.size + 1, 0, none⟩ = some (.int .i64 xr) ∧ w4.cell? ⟨w.heap.size + 1, 1, none⟩ = some (.int .i64 xp) ∧ Below w3.heap.size w3 w4 := by assumption
          have B := held4_below hS
          replace q0 : w4.cell? ⟨w.heap.size, 0, none⟩ = some (.int .i64 k) := cellKeep B q0
          replace q1 : w4.cell? ⟨w.heap.size, 1, none⟩ = some (.slice A rs.length c) := cellKeep B q1
          replace p0 : w4.cell? ⟨w.heap.size + 1, 0, none⟩ = some (.int .i64 xr) := cellKeep B p0
          replace p1 : w4.cell? ⟨w.heap.size + 1, 1, none⟩ = some (.int .i64 xp) := cellKeep B p1
          have x0 : w4.cell? ⟨w3.heap.size, 0, none⟩ = some (.int .i64 k) := hS.1
          have x1 : w4.cell? ⟨w3.heap.size, 1, none⟩ = some (.slice AX rs.length cX) := hS.2.1
          replace RA := Lib.hid (RA.out.below B)
          replace RX := Lib.hid (RX.out.below B)
          replace T := Lib.hid (T.out.trans (B.mono T.out.size))
          clear hS B
          go_wp2_with fail
          go_region_held3 (fun w' => w'.cell? ⟨w.heap.size, 0, none⟩ = some (.int .i64 k) ∧ w'.cell? ⟨w.heap.size, 1, none⟩ = some (.slice A rs.length c) ∧ w'.cell? ⟨w3.heap.size, 0, none⟩ = some (.int .i64 k) ∧ w'.cell? ⟨w3.heap.size, 1, none⟩ = some (.slice AX rs.length cX) ∧ Below w4.heap.size w4 w') (first | exact ⟨q0, q1, x0, x1, (by repeat (first | exact Below.refl _ _ | refine Below.setCell ?_ (by simp) _ | refine Below.alloc ?_ (by simp <;> omega) _ | refine below_drewN ?_ _ | refine Below.drew ?_))⟩ | assumption | exact held4 (by assumption) hba | exact held4 (by assumption) hbc) (first | (go_simp; go_at_call 29; refine (h2.out _ (RA.out.below (held4_below (by assumption)))).mono ?_; rintro e wa ⟨AU, cU, rfl, hown, hba⟩) | (go_simp; go_at_call 32; refine (eqSystem_t _ _ _ _ _ _ _ (RX.out.below (held4_below (by assumption))) hown.rd (by omega)).mono ?_; rintro e w5 ⟨rfl, hbc⟩))
          all_goals
            have hS : w5.cell? ⟨w.heap.size, 0, none⟩ = some (.int .i64 k) ∧ w5.cell? ⟨w.heap.size, 1, none⟩ = some (.slice A rs.length c) ∧ w5.cell? ⟨w3.heap.size, 0, none⟩ = some (.int .i64 k) ∧ w5.cell? ⟨w3.heap.size, 1, none⟩ = some (.slice AX rs.length cX) ∧ Below w4.heap.size w4 w5 := by assumption
            have B := held4_below hS
            replace q0 : w5.cell? ⟨w.heap.size, 0, none⟩ = some (.int .i64 k) := cellKeep B q0
            replace q1 : w5.cell? ⟨w.heap.size, 1, none⟩ = some (.slice A rs.length c) := cellKeep B q1
            replace p0 : w5.cell? ⟨w.heap.size + 1, 0, none⟩ = some (.int .i64 xr) := cellKeep B p0
            replace p1 : w5.cell? ⟨w.heap.size + 1, 1, none⟩ = some (.int .i64 xp) := cellKeep B p1
            replace x0 : w5.cell? ⟨w3.heap.size, 0, none⟩ = some (.int .i64 k) := cellKeep B x0
            replace x1 : w5.cell? ⟨w3.heap.size, 1, none⟩ = some (.slice AX rs.length cX) := cellKeep B x1
            replace RA := Lib.hid (RA.out.below B)
            replace RX := Lib.hid (RX.out.below B)
            replace T := Lib.hid (T.out.trans (B.mono T.out.size))
            clear hS B
            go_wp2_with fail
            go_ret
            exact ⟨rfl, T.out.trans ((show Below w5.heap.size w5 _ from (by repeat (first | exact Below.refl _ _ | refine Below.setCell ?_ (by simp) _ | refine Below.alloc ?_ (by simp <;> omega) _ | refine below_drewN ?_ _ | refine Below.drew ?_))).mono T.out.size)⟩

set_option maxRecDepth 100000 in
theorem lifted (os : Os) (started : os.Started) (H : Type) (enc : TypeId × Value → H) :
    ReturnsInHanded {} Try.checked os 8 .any (Rows.fnExactApplyStepSpec.pre6 enc Try.prog Try.f8 Rows.fnExactApplyStepRow.domain false) (Rows.fnExactApplyStepSpec.post enc Try.prog Try.f8 false true false false) := by
  refine returnsInHanded_of_change (C := Try.checked) Try.own started (by kernel_rfl) Try.func8
    (ChangeSpec.witness6 (enc := enc) (C := Try.checked) false ⟨#[], #[.agg #[.int .i64 0, .slice none 0 0], .string ByteArray.empty, .agg #[.int .i64 0, .int .i64 0]], []⟩ 8 (by kernel_rfl) (by kernel_rfl) (by kernel_rfl) (by kernel_rfl)) ?_
  intro W base args ds gs before hval0 hW hcnd _
  have hval : ∀ (j : Nat) t v, Try.f8.params[j]? = some t → args[j]? = some v → Value.okWide Try.prog W .any base t v := hval0
  have hW' := hW
  have hlt : ∀ x ∈ before, x.block < W.heap.size := fun x hx => hW.lt x hx
  obtain ⟨p, q, hA0, hV, rfl, hfz, hnd⟩ := hW
  have hA : DataW.TrodAll enc Try.prog W 0 (fun _ => true) true Try.f8.params.toList args.toList ds p := hA0
  rw [Try.params8] at hA hval
  obtain ⟨v0, v1, v2, d0, d1, d2, p0, p1, p2, rfl, rfl, rfl, h0, h1, h2⟩ := trodAll_three hA
  clear hA0 hval0 hfz hnd
  obtain ⟨k0, A0, c0, rs0, rfl, hr0⟩ := openSystem (hval 0 38 v0 rfl rfl) h0
  obtain ⟨s1, rfl, rfl, rfl, hs1⟩ := Go.ChangeMaps.open_string Try.underlying9 (hval 1 9 v1 rfl rfl) h1
  obtain ⟨l1, rfl⟩ := bytesList s1
  have hl1 := bytesLen hs1
  obtain ⟨x2, rfl, hr2⟩ := openStep (hval 2 59 v2 rfl rfl) h2
  refine (walk k0 A0 c0 rs0 l1 x2 W hr0 hl1 hr2).mono fun e W' ⟨he, hg⟩ => ?_
  subst he
  exact ⟨_, rfl, lawPost Try.laidOut (by kernel_rfl) (by kernel_rfl) Try.boolType rfl rfl hW' hg⟩

theorem proved : Rows.FnExactApplyStepSaid :=
  OpenClaim.holds_of_wide 8 Try.f8 rfl rfl rfl rfl rfl rfl rfl ⟨rfl, rfl, rfl, rfl, rfl⟩ rfl rfl rfl rfl rfl (by kernel_rfl) Try.func8 (by kernel_rfl)
    (of_decide_eq_true (by kernel_rfl)) (by unfold Func.isWrapper; first | (rw [if_pos (by decide +kernel)]; kernel_rfl) | (rw [if_neg (by decide +kernel)]; exact ⟨rfl, rfl⟩))
    (fun os started H enc _ => lifted os started H enc)
#print axioms proved
end Go.Proofs.Ytoijojdegohknaa.lawExactApplyStep
