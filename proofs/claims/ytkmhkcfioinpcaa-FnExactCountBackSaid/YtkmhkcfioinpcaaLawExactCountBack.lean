/-
  The law FnExactCountBack returns true for every input, and leaves its arguments as they were.
  Conditions: none.
-/
import Derived.Test.YtkmhkcfioinpcaaOpen
import Derived.Test.YtkmhkcfioinpcaaBack
import Derived.Test.YtkmhkcfioinpcaaOpen2
import Derived.Test.YtkmhkcfioinpcaaToB
namespace Go.Proofs.Ytkmhkcfioinpcaa.lawExactCountBack
open Go.ChangeShapes Go.WideShapes Go.ChangeAt Go.RowKit
set_option linter.unusedVariables false

set_option maxRecDepth 100000 in
set_option maxHeartbeats 4000000 in
theorem walk (A : Option Addr) (c : Nat) (xs : List M.Link) (w : World) (hr : xs.length ≤ 9223372036854775807 ∧ Rd w 3 A xs.length (links_ xs)) :
    Calls Try.prog 11 #[.slice A xs.length c] w fun e w' => e = .returned (.bool true) ∧ Below w.heap.size w w' := by
  obtain ⟨hl, hA⟩ := hr
  have RA := Lib.hid hA
  clear hA
  have h1 := Lib.hid (fun W => toBelow1 (szLinkS_c A c xs.length 1048576 W hl (by omega) (by omega)))
  by_cases hz : (1048576 : Int) - xs.length < 0
  case pos =>
    rw [if_pos hz] at h1
    go_enter Try.func11, Try.ntmps11
    go_wp2_with fail
    refine (h1.out _).mono ?_
    rintro e w1 ⟨rfl, hb⟩
    have B := below_then (a := w) (by repeat (first | exact Below.refl _ _ | refine Below.setCell ?_ (by simp) _ | refine Below.alloc ?_ (by simp <;> omega) _ | refine below_drewN ?_ _ | refine Below.drew ?_)) hb
    replace RA := Lib.hid (RA.out.below B)
    have T := Lib.hid B
    clear hb B
    go_wp2_with fail
    go_ret
    exact ⟨rfl, T.out.trans ((show Below w1.heap.size w1 _ from (by repeat (first | exact Below.refl _ _ | refine Below.setCell ?_ (by simp) _ | refine Below.alloc ?_ (by simp <;> omega) _ | refine below_drewN ?_ _ | refine Below.drew ?_))).mono T.out.size)⟩
  case neg =>
    rw [if_neg hz] at h1
    have hl3 : xs.length ≤ 1048576 := by omega
    obtain ⟨z, hzz⟩ : ∃ z, z = (1048576 : Int) - xs.length := ⟨_, rfl⟩
    rw [← hzz] at h1 hz
    clear hzz
    have h2 := Lib.hid (fun W h => toLinkS_c A c xs W h hl3)
    have h3 := Lib.hid (fun W A c h => spec_CountBack_c A c xs W h hl3)
    have h4 := Lib.hid (fun W A c h => impl_CountBack_c A c xs W h hl3)
    generalize M.backs xs = v at *
    go_enter Try.func11, Try.ntmps11
    go_wp2_with fail
    refine (h1.out _).mono ?_
    rintro e w1 ⟨rfl, hb⟩
    have B := below_then (a := w) (by repeat (first | exact Below.refl _ _ | refine Below.setCell ?_ (by simp) _ | refine Below.alloc ?_ (by simp <;> omega) _ | refine below_drewN ?_ _ | refine Below.drew ?_)) hb
    replace RA := Lib.hid (RA.out.below B)
    have T := Lib.hid B
    clear hb B
    go_wp2_with fail
    refine (h2.out _ RA.out).mono ?_
    rintro e w2 ⟨AS, cS, rfl, hown, hb⟩
    have B := below_then (a := w1) (by repeat (first | exact Below.refl _ _ | refine Below.setCell ?_ (by simp) _ | refine Below.alloc ?_ (by simp <;> omega) _ | refine below_drewN ?_ _ | refine Below.drew ?_)) hb
    replace RA := Lib.hid (RA.out.below B)
    replace T := Lib.hid (T.out.trans (B.mono T.out.size))
    clear hb B
    have RS := Lib.hid hown.rd
    clear hown
    go_wp2_with fail
    refine (h3.out _ _ _ RS.out).mono ?_
    rintro e w3 ⟨rfl, hb⟩
    have B := below_then (a := w2) (by repeat (first | exact Below.refl _ _ | refine Below.setCell ?_ (by simp) _ | refine Below.alloc ?_ (by simp <;> omega) _ | refine below_drewN ?_ _ | refine Below.drew ?_)) hb
    replace RA := Lib.hid (RA.out.below B)
    replace T := Lib.hid (T.out.trans (B.mono T.out.size))
    clear hb B
    go_wp2_with fail
    refine (h2.out _ RA.out).mono ?_
    rintro e w4 ⟨AX, cX, rfl, hown, hb⟩
    have B := below_then (a := w3) (by repeat (first | exact Below.refl _ _ | refine Below.setCell ?_ (by simp) _ | refine Below.alloc ?_ (by simp <;> omega) _ | refine below_drewN ?_ _ | refine Below.drew ?_)) hb
    replace RA := Lib.hid (RA.out.below B)
    replace T := Lib.hid (T.out.trans (B.mono T.out.size))
    clear hb B
    have RX := Lib.hid hown.rd
    clear hown
    go_wp2_with fail
    refine (h4.out _ _ _ RX.out).mono ?_
    rintro e w5 ⟨rfl, hb⟩
    have B := below_then (a := w4) (by repeat (first | exact Below.refl _ _ | refine Below.setCell ?_ (by simp) _ | refine Below.alloc ?_ (by simp <;> omega) _ | refine below_drewN ?_ _ | refine Below.drew ?_)) hb
    replace RA := Lib.hid (RA.out.below B)
    replace RX := Lib.hid (RX.out.below B)
    replace T := Lib.hid (T.out.trans (B.mono T.out.size))
    clear hb B
    go_wp2_with fail
    refine (h2.out _ RA.out).mono ?_
    rintro e w6 ⟨AY, cY, rfl, hown, hb⟩
    have B := below_then (a := w5) (by repeat (first | exact Below.refl _ _ | refine Below.setCell ?_ (by simp) _ | refine Below.alloc ?_ (by simp <;> omega) _ | refine below_drewN ?_ _ | refine Below.drew ?_)) hb
    replace RA := Lib.hid (RA.out.below B)
    replace RX := Lib.hid (RX.out.below B)
    replace T := Lib.hid (T.out.trans (B.mono T.out.size))
    clear hb B
    have RY := Lib.hid hown.rd
    clear hown
    go_wp2_with fail
    refine (eqLinkS_t _ _ _ _ _ _ RX.out RY.out (by omega)).mono ?_
    rintro e w7 ⟨rfl, hb⟩
    have B := below_then (a := w6) (by repeat (first | exact Below.refl _ _ | refine Below.setCell ?_ (by simp) _ | refine Below.alloc ?_ (by simp <;> omega) _ | refine below_drewN ?_ _ | refine Below.drew ?_)) hb
    replace RA := Lib.hid (RA.out.below B)
    replace RX := Lib.hid (RX.out.below B)
    replace RY := Lib.hid (RY.out.below B)
    replace T := Lib.hid (T.out.trans (B.mono T.out.size))
    clear hb B
    go_wp2_with fail
    go_ret
    exact ⟨rfl, T.out.trans ((show Below w7.heap.size w7 _ from (by repeat (first | exact Below.refl _ _ | refine Below.setCell ?_ (by simp) _ | refine Below.alloc ?_ (by simp <;> omega) _ | refine below_drewN ?_ _ | refine Below.drew ?_))).mono T.out.size)⟩

set_option maxRecDepth 100000 in
theorem lifted (os : Os) (started : os.Started) (H : Type) (enc : TypeId × Value → H) :
    ReturnsInHanded {} Try.checked os 11 .any (Rows.fnExactCountBackSpec.pre6 enc Try.prog Try.f11 Rows.fnExactCountBackRow.domain false) (Rows.fnExactCountBackSpec.post enc Try.prog Try.f11 false true false false) := by
  refine returnsInHanded_of_change (C := Try.checked) Try.own started (by kernel_rfl) Try.func11
    (ChangeSpec.witness6 (enc := enc) (C := Try.checked) false ⟨#[], #[.slice none 0 0], []⟩ 8 (by kernel_rfl) (by kernel_rfl) (by kernel_rfl) (by kernel_rfl)) ?_
  intro W base args ds gs before hval0 hW hcnd _
  have hval : ∀ (j : Nat) t v, Try.f11.params[j]? = some t → args[j]? = some v → Value.okWide Try.prog W .any base t v := hval0
  have hW' := hW
  have hlt : ∀ x ∈ before, x.block < W.heap.size := fun x hx => hW.lt x hx
  obtain ⟨p, q, hA0, hV, rfl, hfz, hnd⟩ := hW
  have hA : DataW.TrodAll enc Try.prog W 0 (fun _ => true) true Try.f11.params.toList args.toList ds p := hA0
  rw [Try.params11] at hA hval
  obtain ⟨v0, d0, rfl, rfl, h0⟩ := trodAll_one hA
  clear hA0 hval0 hfz hnd
  obtain ⟨A0, c0, xs0, rfl, hr0⟩ := openLinks (hval 0 49 v0 rfl rfl) h0
  refine (walk A0 c0 xs0 W hr0).mono fun e W' ⟨he, hg⟩ => ?_
  subst he
  exact ⟨_, rfl, lawPost Try.laidOut (by kernel_rfl) (by kernel_rfl) Try.boolType rfl rfl hW' hg⟩

theorem proved : Rows.FnExactCountBackSaid :=
  OpenClaim.holds_of_wide 11 Try.f11 rfl rfl rfl rfl rfl rfl rfl ⟨rfl, rfl, rfl, rfl, rfl⟩ rfl rfl rfl rfl rfl (by kernel_rfl) Try.func11 (by kernel_rfl)
    (of_decide_eq_true (by kernel_rfl)) (by unfold Func.isWrapper; first | (rw [if_pos (by decide +kernel)]; kernel_rfl) | (rw [if_neg (by decide +kernel)]; exact ⟨rfl, rfl⟩))
    (fun os started H enc _ => lifted os started H enc)
#print axioms proved
end Go.Proofs.Ytkmhkcfioinpcaa.lawExactCountBack
