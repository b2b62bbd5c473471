/-
  The law FnExactCountClasses returns true for every input, and leaves its arguments as they were.
  Conditions: none.
-/
import Derived.Test.YtlohpphmamapeaaOpen
import Derived.Test.YtlohpphmamapeaaClsF
import Derived.Test.YtlohpphmamapeaaMarkL
namespace Go.Proofs.Ytlohpphmamapeaa.lawExactCountClasses
open Go.ChangeShapes Go.WideShapes Go.ChangeAt Go.RowKit
set_option linter.unusedVariables false

set_option maxRecDepth 100000 in
set_option maxHeartbeats 4000000 in
theorem walk (k : Int) (A : Option Addr) (c : Nat) (rs : List Int) (n0 : Int) (w : World) (hr : (-9223372036854775808 ≤ k ∧ k ≤ 9223372036854775807) ∧ rs.length ≤ 9223372036854775807 ∧ Rd w 1 A rs.length (ints rs) ∧ ∀ z ∈ rs, -9223372036854775808 ≤ z ∧ z ≤ 9223372036854775807) (hn0 : -9223372036854775808 ≤ n0 ∧ n0 ≤ 9223372036854775807) :
    Calls Try.prog 9 #[.agg #[.int .i64 k, .slice A rs.length c], .int .i64 n0] w fun e w' => e = .returned (.bool true) ∧ Below w.heap.size w w' := by
  obtain ⟨hk, hl, hA, hs⟩ := hr
  have RA := Lib.hid hA
  have UA := Lib.hid (hA.blkIn (by decide))
  have h1 := Lib.hid (fun W h => szTable_c k A c rs 1048576 W h hl (by omega) (by omega))
  by_cases hz : (1048576 : Int) - rs.length < 0
  case pos =>
    rw [if_pos hz] at h1
    clear hs hA hz
    go_enter Try.func9, Try.ntmps9
    go_wp2_with fail
    refine (h1.out _ (RA.out.below (by repeat (first | exact Below.refl _ _ | refine Below.setCell ?_ (by simp) _ | refine Below.alloc ?_ (by simp <;> omega) _ | refine below_drewN ?_ _ | refine Below.drew ?_)))).mono ?_
    rintro e w1 ⟨rfl, hb⟩
    have B := below_then (a := w) (by repeat (first | exact Below.refl _ _ | refine Below.setCell ?_ (by simp) _ | refine Below.alloc ?_ (by simp <;> omega) _ | refine below_drewN ?_ _ | refine Below.drew ?_)) hb
    have S1 := Lib.hid (show w.heap.size + 1 ≤ w1.heap.size by have h := hb.size; (try simp at h); omega)
    replace RA := Lib.hid (RA.out.below B)
    have q0 : w1.cell? ⟨w.heap.size, 0, none⟩ = some (.int .i64 k) := cellKeep hb (by simp [go_sem])
    have q1 : w1.cell? ⟨w.heap.size, 1, none⟩ = some (.slice A rs.length c) := cellKeep hb (by simp [go_sem])
    have T := Lib.hid B
    clear hb B
    go_wp2_with fail
    go_ret
    exact ⟨rfl, T.out.trans ((show Below w1.heap.size w1 _ from (by repeat (first | exact Below.refl _ _ | refine Below.setCell ?_ (by simp) _ | refine Below.alloc ?_ (by simp <;> omega) _ | refine below_drewN ?_ _ | refine Below.drew ?_))).mono T.out.size)⟩
  case neg =>
    rw [if_neg hz] at h1
    have hl3 : rs.length ≤ 1048576 := by omega
    obtain ⟨z, hzz⟩ : ∃ z, z = (1048576 : Int) - rs.length := ⟨_, rfl⟩
    rw [← hzz] at h1 hz
    clear hzz
    have h2 := Lib.hid (fun W h => toTable_c k A c rs W h hl3)
    have h3 := Lib.hid (fun W A c h => spec_CountClasses_c k A c rs n0 W h hl3)
    have h4 := Lib.hid (fun W A c h => impl_CountClasses_c k A c rs n0 W h hl3)
    generalize M.CountClasses k rs n0 = zs at *
    clear hs hA
    go_enter Try.func9, Try.ntmps9
    go_wp2_with fail
    refine (h1.out _ (RA.out.below (by repeat (first | exact Below.refl _ _ | refine Below.setCell ?_ (by simp) _ | refine Below.alloc ?_ (by simp <;> omega) _ | refine below_drewN ?_ _ | refine Below.drew ?_)))).mono ?_
    rintro e w1 ⟨rfl, hb⟩
    have B := below_then (a := w) (by repeat (first | exact Below.refl _ _ | refine Below.setCell ?_ (by simp) _ | refine Below.alloc ?_ (by simp <;> omega) _ | refine below_drewN ?_ _ | refine Below.drew ?_)) hb
    have S1 := Lib.hid (show w.heap.size + 1 ≤ w1.heap.size by have h := hb.size; (try simp at h); omega)
    replace RA := Lib.hid (RA.out.below B)
    have q0 : w1.cell? ⟨w.heap.size, 0, none⟩ = some (.int .i64 k) := cellKeep hb (by simp [go_sem])
    have q1 : w1.cell? ⟨w.heap.size, 1, none⟩ = some (.slice A rs.length c) := cellKeep hb (by simp [go_sem])
    have T := Lib.hid B
    clear hb B
    go_wp2_with fail
    refine (h2.out _ (RA.out.below (by repeat (first | exact Below.refl _ _ | refine Below.setCell ?_ (by simp) _ | refine Below.alloc ?_ (by simp <;> omega) _ | refine below_drewN ?_ _ | refine Below.drew ?_)))).mono ?_
    rintro e w2 ⟨AS, cS, rfl, hown, hb⟩
    have B := below_then (a := w1) (by repeat (first | exact Below.refl _ _ | refine Below.setCell ?_ (by simp) _ | refine Below.alloc ?_ (by simp <;> omega) _ | refine below_drewN ?_ _ | refine Below.drew ?_)) hb
    have S2 := Lib.hid (show w1.heap.size + 0 ≤ w2.heap.size by have h := hb.size; (try simp at h); omega)
    replace q0 : w2.cell? ⟨w.heap.size, 0, none⟩ = some (.int .i64 k) := cellKeep B q0
    replace q1 : w2.cell? ⟨w.heap.size, 1, none⟩ = some (.slice A rs.length c) := cellKeep B q1
    replace RA := Lib.hid (RA.out.below B)
    have OS := Lib.hid ((hown).mono (base' := w1.heap.size) (by simp <;> omega))
    have US := Lib.hid OS.out.blkIn
    clear hown
    replace T := Lib.hid (T.out.trans (B.mono T.out.size))
    clear hb B
    go_wp2_with fail
    refine (h3.out _ _ _ OS.out.rd).mono ?_
    rintro e w3 ⟨rfl, hb⟩
    have B := below_then (a := w2) (by repeat (first | exact Below.refl _ _ | refine Below.setCell ?_ (by simp) _ | refine Below.alloc ?_ (by simp <;> omega) _ | refine below_drewN ?_ _ | refine Below.drew ?_)) hb
    have S3 := Lib.hid (show w2.heap.size + 0 ≤ w3.heap.size by have h := hb.size; (try simp at h); omega)
    replace q0 : w3.cell? ⟨w.heap.size, 0, none⟩ = some (.int .i64 k) := cellKeep B q0
    replace q1 : w3.cell? ⟨w.heap.size, 1, none⟩ = some (.slice A rs.length c) := cellKeep B q1
    replace RA := Lib.hid (RA.out.below B)
    replace OS := Lib.hid (OS.out.below B)
    replace T := Lib.hid (T.out.trans (B.mono T.out.size))
    clear hb B
    go_wp2_with fail
    refine (h2.out _ (RA.out.below (by repeat (first | exact Below.refl _ _ | refine Below.setCell ?_ (by simp) _ | refine Below.alloc ?_ (by simp <;> omega) _ | refine below_drewN ?_ _ | refine Below.drew ?_)))).mono ?_
    rintro e w4 ⟨AX, cX, rfl, hown, hb⟩
    have B := below_then (a := w3) (by repeat (first | exact Below.refl _ _ | refine Below.setCell ?_ (by simp) _ | refine Below.alloc ?_ (by simp <;> omega) _ | refine below_drewN ?_ _ | refine Below.drew ?_)) hb
    have S4 := Lib.hid (show w3.heap.size + 0 ≤ w4.heap.size by have h := hb.size; (try simp at h); omega)
    replace q0 : w4.cell? ⟨w.heap.size, 0, none⟩ = some (.int .i64 k) := cellKeep B q0
    replace q1 : w4.cell? ⟨w.heap.size, 1, none⟩ = some (.slice A rs.length c) := cellKeep B q1
    replace RA := Lib.hid (RA.out.below B)
    have OX := Lib.hid ((hown).mono (base' := w3.heap.size) (by simp <;> omega))
    have UX := Lib.hid OX.out.blkIn
    clear hown
    replace T := Lib.hid (T.out.trans (B.mono T.out.size))
    clear hb B
    have q0_1 := allocKeep1 q0
    have q1_1 := allocKeep1 q1
    go_wp2_with fail
    clear q0_1 q1_1
    refine (h4.out _ _ _ (OX.out.rd.below (by repeat (first | exact Below.refl _ _ | refine Below.setCell ?_ (by simp) _ | refine Below.alloc ?_ (by simp <;> omega) _ | refine below_drewN ?_ _ | refine Below.drew ?_)))).mono ?_
    rintro e w5 ⟨rfl, hb⟩
    have B := below_then (a := w4) (by repeat (first | exact Below.refl _ _ | refine Below.setCell ?_ (by simp) _ | refine Below.alloc ?_ (by simp <;> omega) _ | refine below_drewN ?_ _ | refine Below.drew ?_)) hb
    have S5 := Lib.hid (show w4.heap.size + 1 ≤ w5.heap.size by have h := hb.size; (try simp at h); omega)
    replace q0 : w5.cell? ⟨w.heap.size, 0, none⟩ = some (.int .i64 k) := cellKeep B q0
    replace q1 : w5.cell? ⟨w.heap.size, 1, none⟩ = some (.slice A rs.length c) := cellKeep B q1
    replace RA := Lib.hid (RA.out.below B)
    replace OX := Lib.hid (OX.out.below B)
    have x0 : w5.cell? ⟨w4.heap.size, 0, none⟩ = some (.int .i64 k) := cellKeep hb (by simp [go_sem])
    have x1 : w5.cell? ⟨w4.heap.size, 1, none⟩ = some (.slice AX rs.length cX) := cellKeep hb (by simp [go_sem])
    replace T := Lib.hid (T.out.trans (B.mono T.out.size))
    clear hb B
    go_wp2_with fail
    go_region_held3 (fun w' => w'.cell? ⟨w.heap.size, 0, none⟩ = some (.int .i64 k) ∧ w'.cell? ⟨w.heap.size, 1, none⟩ = some (.slice A rs.length c) ∧ w'.cell? ⟨w4.heap.size, 0, none⟩ = some (.int .i64 k) ∧ w'.cell? ⟨w4.heap.size, 1, none⟩ = some (.slice AX rs.length cX) ∧ Below w5.heap.size w5 w') (first | exact ⟨q0, q1, x0, x1, (by repeat (first | exact Below.refl _ _ | refine Below.setCell ?_ (by simp) _ | refine Below.alloc ?_ (by simp <;> omega) _ | refine below_drewN ?_ _ | refine Below.drew ?_))⟩ | assumption | exact held4 (by assumption) hba | exact held4 (by assumption) hbc) (first | (go_simp; go_at_call 23; refine (h2.out _ (RA.out.below (held4_below (by assumption)))).mono ?_; rintro e wa ⟨AU, cU, rfl, hownU, hba⟩) | (go_simp; go_at_call 27; refine (eqTable_t _ _ _ _ _ _ _ (OX.out.rd.below (held4_below (by assumption))) hownU.rd (by omega)).mono ?_; rintro e w6 ⟨rfl, hbc⟩))
    all_goals
      have hS : w6.cell? ⟨w.heap.size, 0, none⟩ = some (.int .i64 k) ∧ w6.cell? ⟨w.heap.size, 1, none⟩ = some (.slice A rs.length c) ∧ w6.cell? ⟨w4.heap.size, 0, none⟩ = some (.int .i64 k) ∧ w6.cell? ⟨w4.heap.size, 1, none⟩ = some (.slice AX rs.length cX) ∧ Below w5.heap.size w5 w6 := by assumption
      have B := held4_below hS
      have S6 := Lib.hid (show w5.heap.size + 0 ≤ w6.heap.size by have h := B.size; (try simp at h); omega)
      replace q0 : w6.cell? ⟨w.heap.size, 0, none⟩ = some (.int .i64 k) := cellKeep B q0
      replace q1 : w6.cell? ⟨w.heap.size, 1, none⟩ = some (.slice A rs.length c) := cellKeep B q1
      replace x0 : w6.cell? ⟨w4.heap.size, 0, none⟩ = some (.int .i64 k) := cellKeep B x0
      replace x1 : w6.cell? ⟨w4.heap.size, 1, none⟩ = some (.slice AX rs.length cX) := cellKeep B x1
      replace RA := Lib.hid (RA.out.below B)
      replace OX := Lib.hid (OX.out.below B)
      replace T := Lib.hid (T.out.trans (B.mono T.out.size))
      clear hS B
      go_wp2_with fail
      go_ret
      exact ⟨rfl, T.out.trans ((show Below w6.heap.size w6 _ from (by repeat (first | exact Below.refl _ _ | refine Below.setCell ?_ (by simp) _ | refine Below.alloc ?_ (by simp <;> omega) _ | refine below_drewN ?_ _ | refine Below.drew ?_))).mono T.out.size)⟩

set_option maxRecDepth 100000 in
theorem lifted (os : Os) (started : os.Started) (H : Type) (enc : TypeId × Value → H) :
    ReturnsInHanded {} Try.checked os 9 .any (Rows.fnExactCountClassesSpec.pre6 enc Try.prog Try.f9 Rows.fnExactCountClassesRow.domain false) (Rows.fnExactCountClassesSpec.post enc Try.prog Try.f9 false true false false) := by
  refine returnsInHanded_of_change (C := Try.checked) Try.own started (by kernel_rfl) Try.func9
    (ChangeSpec.witness6 (enc := enc) (C := Try.checked) false ⟨#[], #[.agg #[.int .i64 0, .slice none 0 0], .int .i64 0], []⟩ 8 (by kernel_rfl) (by kernel_rfl) (by kernel_rfl) (by kernel_rfl)) ?_
  intro W base args ds gs before hval0 hW hcnd _
  have hval : ∀ (j : Nat) t v, Try.f9.params[j]? = some t → args[j]? = some v → Value.okWide Try.prog W .any base t v := hval0
  have hW' := hW
  have hlt : ∀ x ∈ before, x.block < W.heap.size := fun x hx => hW.lt x hx
  obtain ⟨p, q, hA0, hV, rfl, hfz, hnd⟩ := hW
  have hA : DataW.TrodAll enc Try.prog W 0 (fun _ => true) true Try.f9.params.toList args.toList ds p := hA0
  rw [Try.params9] at hA hval
  obtain ⟨v0, v1, d0, d1, p0, p1, rfl, rfl, rfl, h0, h1⟩ := trodAll_two hA
  clear hA0 hval0 hfz hnd
  obtain ⟨k0, A0, c0, zs0, rfl, hr0⟩ := openTable (hval 0 37 v0 rfl rfl) h0
  obtain ⟨n1, rfl, rfl, rfl, wf1⟩ := open_int Try.underlying3 (hval 1 3 v1 rfl rfl) h1
  have hn1 := intBounds wf1
  refine (walk k0 A0 c0 zs0 n1 W hr0 hn1).mono fun e W' ⟨he, hg⟩ => ?_
  subst he
  exact ⟨_, rfl, lawPost Try.laidOut (by kernel_rfl) (by kernel_rfl) Try.boolType rfl rfl hW' hg⟩

theorem proved : Rows.FnExactCountClassesSaid :=
  OpenClaim.holds_of_wide 9 Try.f9 rfl rfl rfl rfl rfl rfl rfl ⟨rfl, rfl, rfl, rfl, rfl⟩ rfl rfl rfl rfl rfl (by kernel_rfl) Try.func9 (by kernel_rfl)
    (of_decide_eq_true (by kernel_rfl)) (by unfold Func.isWrapper; first | (rw [if_pos (by decide +kernel)]; kernel_rfl) | (rw [if_neg (by decide +kernel)]; exact ⟨rfl, rfl⟩))
    (fun os started H enc _ => lifted os started H enc)
#print axioms proved
end Go.Proofs.Ytlohpphmamapeaa.lawExactCountClasses
