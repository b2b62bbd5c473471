/-
  The law FnExactIsInterreduced returns true for every input, and leaves its arguments as they were.
  Conditions: none.
-/
import Derived.Test.YtoijojdegohknaaOpen
import Derived.HandedShaped
import Derived.Test.YtoijojdegohknaaInter
import Derived.Test.YtoijojdegohknaaOpen2
import Derived.Test.YtoijojdegohknaaMaxLen
namespace Go.Proofs.Ytoijojdegohknaa.lawExactIsInterreduced
open Go.ChangeShapes Go.WideShapes Go.ChangeAt Go.RowKit
set_option linter.unusedVariables false

set_option maxRecDepth 100000 in
set_option maxHeartbeats 4000000 in
theorem walk (m : Int) (k : Int) (A : Option Addr) (c : Nat) (rs : List M.Rule) (w : World) (hr : (-9223372036854775808 ≤ k ∧ k ≤ 9223372036854775807) ∧ rs.length ≤ 9223372036854775807 ∧ Rd w 2 A rs.length (ruls rs) ∧ ∀ r ∈ rs, r.left.length ≤ 9223372036854775807 ∧ r.right.length ≤ 9223372036854775807) (hm : w.cell? ⟨0, 0, none⟩ = some (.int .i64 m)) :
    Calls Try.prog 12 #[.agg #[.int .i64 k, .slice A rs.length c]] w fun e w' => e = .returned (.bool true) ∧ Below w.heap.size w w' := by
  obtain ⟨hk, hl, hA, hs⟩ := hr
  have RA := Lib.hid hA
  have HM := Lib.hid hm
  clear hm
  have h1 := Lib.hid (fun W h => szSystem_c k A c rs 1048576 W h hl hs (by omega) (by omega))
  by_cases hz : M.szRules rs 1048576 < 0
  case pos =>
    rw [if_pos hz] at h1
    clear hs hA hz
    go_enter Try.func12, Try.ntmps12
    go_wp2_with fail
    refine (h1.out _ (RA.out.below (by repeat (first | exact Below.refl _ _ | refine Below.setCell ?_ (by simp) _ | refine Below.alloc ?_ (by simp <;> omega) _ | refine below_drewN ?_ _ | refine Below.drew ?_)))).mono ?_
    rintro e w1 ⟨rfl, hb⟩
    have B := below_then (a := w) (by repeat (first | exact Below.refl _ _ | refine Below.setCell ?_ (by simp) _ | refine Below.alloc ?_ (by simp <;> omega) _ | refine below_drewN ?_ _ | refine Below.drew ?_)) hb
    have q0 : w1.cell? ⟨w.heap.size, 0, none⟩ = some (.int .i64 k) := cellKeep hb (by simp [go_sem])
    have q1 : w1.cell? ⟨w.heap.size, 1, none⟩ = some (.slice A rs.length c) := cellKeep hb (by simp [go_sem])
    replace RA := Lib.hid (RA.out.below B)
    have T := Lib.hid B
    clear hb B
    go_wp2_with fail
    go_ret
    exact ⟨rfl, T.out.trans ((show Below w1.heap.size w1 _ from (by repeat (first | exact Below.refl _ _ | refine Below.setCell ?_ (by simp) _ | refine Below.alloc ?_ (by simp <;> omega) _ | refine below_drewN ?_ _ | refine Below.drew ?_))).mono T.out.size)⟩
  case neg =>
    rw [if_neg hz] at h1
    obtain ⟨hl2, hs2, _⟩ := M.szRules_ok hz
    have hl3 : rs.length ≤ 1048576 := by omega
    have hs3 : ∀ r ∈ rs, r.left.length ≤ 1048576 ∧ r.right.length ≤ 1048576 := fun r hr => by have := hs2 r hr; omega
    have h2 := Lib.hid (fun W h => toSystem_c k A c rs W h hl3)
    have h3 := Lib.hid (fun W A c h => spec_IsInterreduced_c k A c rs W h hl3 hs3)
    have h4 := Lib.hid (fun W A c h hm => impl_IsInterreduced_c k A c rs W h hl3 hs3 m hm)
    generalize M.szRules rs 1048576 = z at *
    generalize M.IsInterreduced k rs = x at *
    clear hs hA hs2 hs3
    cases x
    all_goals
      go_enter Try.func12, Try.ntmps12
      go_wp2_with fail
      refine (h1.out _ (RA.out.below (by repeat (first | exact Below.refl _ _ | refine Below.setCell ?_ (by simp) _ | refine Below.alloc ?_ (by simp <;> omega) _ | refine below_drewN ?_ _ | refine Below.drew ?_)))).mono ?_
      rintro e w1 ⟨rfl, hb⟩
      have B := below_then (a := w) (by repeat (first | exact Below.refl _ _ | refine Below.setCell ?_ (by simp) _ | refine Below.alloc ?_ (by simp <;> omega) _ | refine below_drewN ?_ _ | refine Below.drew ?_)) hb
      have q0 : w1.cell? ⟨w.heap.size, 0, none⟩ = some (.int .i64 k) := cellKeep hb (by simp [go_sem])
      have q1 : w1.cell? ⟨w.heap.size, 1, none⟩ = some (.slice A rs.length c) := cellKeep hb (by simp [go_sem])
      replace RA := Lib.hid (RA.out.below B)
      have T := Lib.hid B
      clear hb B
      go_wp2_with fail
      refine (h2.out _ (RA.out.below (by repeat (first | exact Below.refl _ _ | refine Below.setCell ?_ (by simp) _ | refine Below.alloc ?_ (by simp <;> omega) _ | refine below_drewN ?_ _ | refine Below.drew ?_)))).mono ?_
      rintro e w2 ⟨AS, cS, rfl, hown, hb⟩
      have B := below_then (a := w1) (by repeat (first | exact Below.refl _ _ | refine Below.setCell ?_ (by simp) _ | refine Below.alloc ?_ (by simp <;> omega) _ | refine below_drewN ?_ _ | refine Below.drew ?_)) hb
      replace q0 : w2.cell? ⟨w.heap.size, 0, none⟩ = some (.int .i64 k) := cellKeep B q0
      replace q1 : w2.cell? ⟨w.heap.size, 1, none⟩ = some (.slice A rs.length c) := cellKeep B q1
      replace RA := Lib.hid (RA.out.below B)
      replace T := Lib.hid (T.out.trans (B.mono T.out.size))
      clear hb B
      have RS := Lib.hid hown.rd
      clear hown
      go_wp2_with fail
      refine (h3.out _ _ _ (RS.out)).mono ?_
      rintro e w3 ⟨rfl, hb⟩
      have B := below_then (a := w2) (by repeat (first | exact Below.refl _ _ | refine Below.setCell ?_ (by simp) _ | refine Below.alloc ?_ (by simp <;> omega) _ | refine below_drewN ?_ _ | refine Below.drew ?_)) hb
      replace q0 : w3.cell? ⟨w.heap.size, 0, none⟩ = some (.int .i64 k) := cellKeep B q0
      replace q1 : w3.cell? ⟨w.heap.size, 1, none⟩ = some (.slice A rs.length c) := cellKeep B q1
      replace RA := Lib.hid (RA.out.below B)
      replace RS := Lib.hid (RS.out.below B)
      replace T := Lib.hid (T.out.trans (B.mono T.out.size))
      clear hb B
      go_wp2_with fail
      refine (h2.out _ (RA.out.below (by repeat (first | exact Below.refl _ _ | refine Below.setCell ?_ (by simp) _ | refine Below.alloc ?_ (by simp <;> omega) _ | refine below_drewN ?_ _ | refine Below.drew ?_)))).mono ?_
      rintro e w4 ⟨AX, cX, rfl, hown, hb⟩
      have B := below_then (a := w3) (by repeat (first | exact Below.refl _ _ | refine Below.setCell ?_ (by simp) _ | refine Below.alloc ?_ (by simp <;> omega) _ | refine below_drewN ?_ _ | refine Below.drew ?_)) hb
      replace q0 : w4.cell? ⟨w.heap.size, 0, none⟩ = some (.int .i64 k) := cellKeep B q0
      replace q1 : w4.cell? ⟨w.heap.size, 1, none⟩ = some (.slice A rs.length c) := cellKeep B q1
      replace RA := Lib.hid (RA.out.below B)
      replace T := Lib.hid (T.out.trans (B.mono T.out.size))
      clear hb B
      have RX := Lib.hid hown.rd
      clear hown
      go_wp2_with fail
      refine (h4.out _ _ _ (RX.out.below (by repeat (first | exact Below.refl _ _ | refine Below.setCell ?_ (by simp) _ | refine Below.alloc ?_ (by simp <;> omega) _ | refine below_drewN ?_ _ | refine Below.drew ?_))) (cellKeep (below_then T.out (by repeat (first | exact Below.refl _ _ | refine Below.setCell ?_ (by simp) _ | refine Below.alloc ?_ (by simp <;> omega) _ | refine below_drewN ?_ _ | refine Below.drew ?_))) HM.out)).mono ?_
      rintro e w5 ⟨rfl, hb⟩
      have B := below_then (a := w4) (by repeat (first | exact Below.refl _ _ | refine Below.setCell ?_ (by simp) _ | refine Below.alloc ?_ (by simp <;> omega) _ | refine below_drewN ?_ _ | refine Below.drew ?_)) hb
      replace q0 : w5.cell? ⟨w.heap.size, 0, none⟩ = some (.int .i64 k) := cellKeep B q0
      replace q1 : w5.cell? ⟨w.heap.size, 1, none⟩ = some (.slice A rs.length c) := cellKeep B q1
      have x0 : w5.cell? ⟨w4.heap.size, 0, none⟩ = some (.int .i64 k) := cellKeep hb (by simp [go_sem])
      have x1 : w5.cell? ⟨w4.heap.size, 1, none⟩ = some (.slice AX rs.length cX) := cellKeep hb (by simp [go_sem])
      replace RA := Lib.hid (RA.out.below B)
      replace RX := Lib.hid (RX.out.below B)
      replace T := Lib.hid (T.out.trans (B.mono T.out.size))
      clear hb B
      go_wp2_with fail
      go_region_held3 (fun w' => w'.cell? ⟨w.heap.size, 0, none⟩ = some (.int .i64 k) ∧ w'.cell? ⟨w.heap.size, 1, none⟩ = some (.slice A rs.length c) ∧ w'.cell? ⟨w4.heap.size, 0, none⟩ = some (.int .i64 k) ∧ w'.cell? ⟨w4.heap.size, 1, none⟩ = some (.slice AX rs.length cX) ∧ Below w5.heap.size w5 w') (first | exact ⟨q0, q1, x0, x1, (Below.refl _ _).drew⟩ | assumption | exact held4 (by assumption) hba | exact held4 (by assumption) hbb) (first | (go_simp; go_at_call 29; refine (h2.out _ (RA.out.below (held4_below (by assumption)))).mono ?_; rintro e wa ⟨AY, cY, rfl, hown, hba⟩) | (go_simp; go_at_call 32; refine (eqSystem_t _ _ _ _ _ _ _ (RX.out.below (held4_below (by assumption))) hown.rd (by omega)).mono ?_; rintro e wb ⟨rfl, hbb⟩))
      all_goals
        have hh := held4_below (by assumption)
        go_wp2_with fail
        go_ret
        exact ⟨rfl, T.out.trans (hh.mono T.out.size)⟩

set_option maxRecDepth 100000 in
theorem lifted (os : Os) (started : os.Started) (H : Type) (enc : TypeId × Value → H) :
    ReturnsInHanded {} Try.checked os 12 .any (Rows.fnExactIsInterreducedSpec.pre6 enc Try.prog Try.f12 Rows.fnExactIsInterreducedRow.domain false) (Rows.fnExactIsInterreducedSpec.post enc Try.prog Try.f12 false true false false) := by
  refine returnsInHanded_of_change_shaped (C := Try.checked) Try.own started (by kernel_rfl) Try.func12
    (ChangeSpec.witness6 (enc := enc) (C := Try.checked) false ⟨#[], #[.agg #[.int .i64 0, .slice none 0 0]], []⟩ 8 (by kernel_rfl) (by kernel_rfl) (by kernel_rfl) (by kernel_rfl)) ?_
  intro W base args ds gs before hval0 hW hcnd _ hsh _
  obtain ⟨m, hm⟩ := maxLen_of W hsh
  have hval : ∀ (j : Nat) t v, Try.f12.params[j]? = some t → args[j]? = some v → Value.okWide Try.prog W .any base t v := hval0
  have hW' := hW
  have hlt : ∀ x ∈ before, x.block < W.heap.size := fun x hx => hW.lt x hx
  obtain ⟨p, q, hA0, hV, rfl, hfz, hnd⟩ := hW
  have hA : DataW.TrodAll enc Try.prog W 0 (fun _ => true) true Try.f12.params.toList args.toList ds p := hA0
  rw [Try.params12] at hA hval
  obtain ⟨v0, d0, rfl, rfl, h0⟩ := trodAll_one hA
  clear hA0 hval0 hfz hnd
  obtain ⟨k0, A0, c0, rs0, rfl, hr0⟩ := openSystem (hval 0 38 v0 rfl rfl) h0
  refine (walk m k0 A0 c0 rs0 W hr0 hm).mono fun e W' ⟨he, hg⟩ => ?_
  subst he
  exact ⟨_, rfl, lawPost Try.laidOut (by kernel_rfl) (by kernel_rfl) Try.boolType rfl rfl hW' hg⟩

theorem proved : Rows.FnExactIsInterreducedSaid :=
  OpenClaim.holds_of_wide 12 Try.f12 rfl rfl rfl rfl rfl rfl rfl ⟨rfl, rfl, rfl, rfl, rfl⟩ rfl rfl rfl rfl rfl (by kernel_rfl) Try.func12 (by kernel_rfl)
    (of_decide_eq_true (by kernel_rfl)) (by unfold Func.isWrapper; first | (rw [if_pos (by decide +kernel)]; kernel_rfl) | (rw [if_neg (by decide +kernel)]; exact ⟨rfl, rfl⟩))
    (fun os started H enc _ => lifted os started H enc)
#print axioms proved
end Go.Proofs.Ytoijojdegohknaa.lawExactIsInterreduced
