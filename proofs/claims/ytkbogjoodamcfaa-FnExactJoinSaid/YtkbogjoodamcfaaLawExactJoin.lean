/-
  The law FnExactJoin returns true for every input, and leaves its arguments as they were.
  Conditions: none.
-/
import Derived.Test.YtkbogjoodamcfaaOpen
import Derived.Test.YtkbogjoodamcfaaJoin
namespace Go.Proofs.Ytkbogjoodamcfaa.lawExactJoin
open Go.ChangeShapes Go.WideShapes Go.ChangeAt Go.RowKit
set_option linter.unusedVariables false

set_option maxRecDepth 100000 in
set_option maxHeartbeats 4000000 in
theorem walk (A : Option Addr) (c : Nat) (ls : List (List UInt8)) (p : List UInt8) (w : World) (hr : ls.length ≤ 9223372036854775807 ∧ Rd w 1 A ls.length (strs ls) ∧ ∀ l ∈ ls, l.length ≤ 9223372036854775807) (hp0 : p.length ≤ 9223372036854775807) :
    Calls Try.prog 3 #[.slice A ls.length c, .string ⟨p.toArray⟩] w fun e w' => e = .returned (.bool true) ∧ Below w.heap.size w w' := by
  obtain ⟨hl, hA, hs⟩ := hr
  have RA := Lib.hid hA
  by_cases hbig : 1048576 < p.length
  case pos =>
    clear hA hs
    go_enter Try.func3, Try.ntmps3
    go_wp2
    go_ret
    exact ⟨rfl, Below.refl _ _⟩
  case neg =>
  have hp : p.length ≤ 1048576 := by omega
  have h1 := Lib.hid (fun W h => szStringS_c A c ls 1048576 W h hl hs (by omega) (by omega))
  by_cases hz : (1048576 : Int) - ls.length - (Lib.lens ls : Nat) < 0
  case pos =>
    rw [if_pos hz] at h1
    clear hs hA hz
    go_enter Try.func3, Try.ntmps3
    go_wp2_with fail
    refine (h1.out _ RA.out).mono ?_
    rintro e w1 ⟨rfl, hb⟩
    have B := below_then (a := w) (by repeat (first | exact Below.refl _ _ | refine Below.setCell ?_ (by simp) _ | refine Below.alloc ?_ (by simp <;> omega) _ | refine below_drewN ?_ _ | refine Below.drew ?_)) hb
    replace RA := Lib.hid (RA.out.below B)
    have T := Lib.hid B
    clear hb B
    go_wp2_with fail
    go_ret
    exact ⟨rfl, T.out.trans ((show Below w1.heap.size w1 _ from (by repeat (first | exact Below.refl _ _ | refine Below.setCell ?_ (by simp) _ | refine Below.alloc ?_ (by simp <;> omega) _ | refine below_drewN ?_ _ | refine Below.drew ?_))).mono T.out.size)⟩
  case neg =>
    rw [if_neg hz] at h1
    have hl3 : ls.length ≤ 1048576 := by omega
    have ht : Lib.lens ls ≤ 1048576 := by omega
    have h2 := Lib.hid (fun W h => toStringS_s A c ls W h hl3)
    have h3 := Lib.hid (fun W A c h => spec_Join_c A c ls p W h hl3 ht hp)
    have h4 := Lib.hid (fun W b h => impl_Join_c b ls.length ls p W h (Nat.le_refl _) hl3 ht hp)
    obtain ⟨z, hzz⟩ : ∃ z, z = (1048576 : Int) - ls.length - (Lib.lens ls : Nat) := ⟨_, rfl⟩
    rw [← hzz] at h1 hz
    clear hs hA hzz ht
    generalize Lib.join ls p = q at *
    go_enter Try.func3, Try.ntmps3
    go_wp2_with fail
    refine (h1.out _ RA.out).mono ?_
    rintro e w1 ⟨rfl, hb⟩
    have B := below_then (a := w) (by repeat (first | exact Below.refl _ _ | refine Below.setCell ?_ (by simp) _ | refine Below.alloc ?_ (by simp <;> omega) _ | refine below_drewN ?_ _ | refine Below.drew ?_)) hb
    replace RA := Lib.hid (RA.out.below B)
    have T := Lib.hid B
    clear hb B
    go_wp2_with fail
    refine (h2.out _ RA.out).mono ?_
    rintro e w2 ⟨rfl, hown, hb⟩
    have B := below_then (a := w1) (by repeat (first | exact Below.refl _ _ | refine Below.setCell ?_ (by simp) _ | refine Below.alloc ?_ (by simp <;> omega) _ | refine below_drewN ?_ _ | refine Below.drew ?_)) hb
    replace RA := Lib.hid (RA.out.below B)
    replace T := Lib.hid (T.out.trans (B.mono T.out.size))
    clear hb B
    have RS := Lib.hid hown.rd
    clear hown
    go_wp2_with fail
    refine (h3.out _ _ _ RS.out).mono ?_
    rintro e w3 ⟨rfl, hb⟩
    have B := below_then (a := w2) (by repeat (first | exact Below.refl _ _ | refine Below.setCell ?_ (by simp) _ | refine Below.alloc ?_ (by simp <;> omega) _ | refine below_drewN ?_ _ | refine Below.drew ?_)) hb
    replace RA := Lib.hid (RA.out.below B)
    replace RS := Lib.hid (RS.out.below B)
    replace T := Lib.hid (T.out.trans (B.mono T.out.size))
    clear hb B
    go_wp2_with fail
    refine (h2.out _ RA.out).mono ?_
    rintro e w4 ⟨rfl, hown, hb⟩
    have B := below_then (a := w3) (by repeat (first | exact Below.refl _ _ | refine Below.setCell ?_ (by simp) _ | refine Below.alloc ?_ (by simp <;> omega) _ | refine below_drewN ?_ _ | refine Below.drew ?_)) hb
    replace RA := Lib.hid (RA.out.below B)
    replace T := Lib.hid (T.out.trans (B.mono T.out.size))
    clear hb B
    have RX := Lib.hid hown.rd
    clear hown
    go_wp2_with fail
    refine (h4.out _ _ RX.out).mono ?_
    rintro e w5 ⟨rfl, hb⟩
    have B := below_then (a := w4) (by repeat (first | exact Below.refl _ _ | refine Below.setCell ?_ (by simp) _ | refine Below.alloc ?_ (by simp <;> omega) _ | refine below_drewN ?_ _ | refine Below.drew ?_)) hb
    replace RA := Lib.hid (RA.out.below B)
    replace RX := Lib.hid (RX.out.below B)
    replace T := Lib.hid (T.out.trans (B.mono T.out.size))
    clear hb B
    go_wp2_with fail
    refine (h2.out _ RA.out).mono ?_
    rintro e w6 ⟨rfl, hown, hb⟩
    have B := below_then (a := w5) (by repeat (first | exact Below.refl _ _ | refine Below.setCell ?_ (by simp) _ | refine Below.alloc ?_ (by simp <;> omega) _ | refine below_drewN ?_ _ | refine Below.drew ?_)) hb
    replace RA := Lib.hid (RA.out.below B)
    replace RX := Lib.hid (RX.out.below B)
    replace T := Lib.hid (T.out.trans (B.mono T.out.size))
    clear hb B
    have RY := Lib.hid hown.rd
    clear hown
    go_wp2_with fail
    refine (eqStringS_t _ _ _ _ _ _ RX.out RY.out (by omega)).mono ?_
    rintro e w7 ⟨rfl, hb⟩
    have B := below_then (a := w6) (by repeat (first | exact Below.refl _ _ | refine Below.setCell ?_ (by simp) _ | refine Below.alloc ?_ (by simp <;> omega) _ | refine below_drewN ?_ _ | refine Below.drew ?_)) hb
    replace RA := Lib.hid (RA.out.below B)
    replace RX := Lib.hid (RX.out.below B)
    replace RY := Lib.hid (RY.out.below B)
    replace T := Lib.hid (T.out.trans (B.mono T.out.size))
    clear hb B
    go_wp2_with fail
    go_ret
    exact ⟨rfl, T.out.trans ((show Below w7.heap.size w7 _ from (by repeat (first | exact Below.refl _ _ | refine Below.setCell ?_ (by simp) _ | refine Below.alloc ?_ (by simp <;> omega) _ | refine below_drewN ?_ _ | refine Below.drew ?_))).mono T.out.size)⟩

set_option maxRecDepth 100000 in
theorem lifted (os : Os) (started : os.Started) (H : Type) (enc : TypeId × Value → H) :
    ReturnsInHanded {} Try.checked os 3 .any (Rows.fnExactJoinSpec.pre6 enc Try.prog Try.f3 Rows.fnExactJoinRow.domain false) (Rows.fnExactJoinSpec.post enc Try.prog Try.f3 false true false false) := by
  refine returnsInHanded_of_change (C := Try.checked) Try.own started (by kernel_rfl) Try.func3
    (ChangeSpec.witness6 (enc := enc) (C := Try.checked) false ⟨#[], #[.slice none 0 0, .string ByteArray.empty], []⟩ 8 (by kernel_rfl) (by kernel_rfl) (by kernel_rfl) (by kernel_rfl)) ?_
  intro W base args ds gs before hval0 hW hcnd _
  have hval : ∀ (j : Nat) t v, Try.f3.params[j]? = some t → args[j]? = some v → Value.okWide Try.prog W .any base t v := hval0
  have hW' := hW
  have hlt : ∀ x ∈ before, x.block < W.heap.size := fun x hx => hW.lt x hx
  obtain ⟨p, q, hA0, hV, rfl, hfz, hnd⟩ := hW
  have hA : DataW.TrodAll enc Try.prog W 0 (fun _ => true) true Try.f3.params.toList args.toList ds p := hA0
  rw [Try.params3] at hA hval
  obtain ⟨v0, v1, d0, d1, p0, p1, rfl, rfl, rfl, h0, h1⟩ := trodAll_two hA
  clear hA0 hval0 hfz hnd
  obtain ⟨A0, c0, ls0, rfl, hr0⟩ := openStrings (hval 0 22 v0 rfl rfl) h0
  obtain ⟨s1, rfl, rfl, rfl, hs1⟩ := Go.ChangeMaps.open_string Try.underlying9 (hval 1 9 v1 rfl rfl) h1
  obtain ⟨l1, rfl⟩ := bytesList s1
  have hl1 := bytesLen hs1
  refine (walk A0 c0 ls0 l1 W hr0 hl1).mono fun e W' ⟨he, hg⟩ => ?_
  subst he
  exact ⟨_, rfl, lawPost Try.laidOut (by kernel_rfl) (by kernel_rfl) Try.boolType rfl rfl hW' hg⟩

theorem proved : Rows.FnExactJoinSaid :=
  OpenClaim.holds_of_wide 3 Try.f3 rfl rfl rfl rfl rfl rfl rfl ⟨rfl, rfl, rfl, rfl, rfl⟩ rfl rfl rfl rfl rfl (by kernel_rfl) Try.func3 (by kernel_rfl)
    (of_decide_eq_true (by kernel_rfl)) (by unfold Func.isWrapper; first | (rw [if_pos (by decide +kernel)]; kernel_rfl) | (rw [if_neg (by decide +kernel)]; exact ⟨rfl, rfl⟩))
    (fun os started H enc _ => lifted os started H enc)
#print axioms proved
end Go.Proofs.Ytkbogjoodamcfaa.lawExactJoin
