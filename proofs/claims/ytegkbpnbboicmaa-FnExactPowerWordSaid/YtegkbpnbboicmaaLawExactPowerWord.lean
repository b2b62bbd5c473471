/-
  The law FnExactPowerWord returns true for every input, and leaves its arguments as they were.
  Conditions: none.
-/
import Derived.Test.YtegkbpnbboicmaaOpen
import Derived.Test.YtegkbpnbboicmaaPower
import Derived.Test.YtegkbpnbboicmaaToB
namespace Go.Proofs.Ytegkbpnbboicmaa.lawExactPowerWord
open Go.ChangeShapes Go.WideShapes Go.ChangeAt Go.RowKit
set_option linter.unusedVariables false

set_option maxRecDepth 100000 in
set_option maxHeartbeats 2000000 in
theorem walk (l0 : List UInt8) (n1 : Int) (w : World) (hl0 : l0.length ≤ 9223372036854775807) (hn1 : -9223372036854775808 ≤ n1 ∧ n1 ≤ 9223372036854775807) :
    Calls Try.prog 11 #[.string ⟨l0.toArray⟩, .int .i64 n1] w fun e w' => e = .returned (.bool true) ∧ Below w.heap.size w w' := by
  by_cases hs_l0 : 1048576 < l0.length
  · go_enter Try.func11, Try.ntmps11
    go_wp2
    go_ret
    exact ⟨rfl, Below.refl _ _⟩
  have H1 : ∀ w, Calls Try.prog 38 #[.string ⟨l0.toArray⟩, .int .i64 n1] w (fun e w' => e = .returned (.tuple #[.string ⟨((M.PowerWord l0 n1).1).toArray⟩, .bool ((M.PowerWord l0 n1).2)]) ∧ Below w.heap.size w w') := fun w => by first | exact toBelow (spec_PowerWord_c l0 n1 w (by omega) (by omega)) | exact toBelow1 (spec_PowerWord_c l0 n1 w (by omega) (by omega)) | exact toBelow2 (spec_PowerWord_c l0 n1 w (by omega) (by omega))
  have H2 : ∀ w, Calls Try.prog 39 #[.string ⟨l0.toArray⟩, .int .i64 n1] w (fun e w' => e = .returned (.tuple #[.string ⟨((M.PowerWord l0 n1).1).toArray⟩, .bool ((M.PowerWord l0 n1).2)]) ∧ Below w.heap.size w w') := fun w => by first | exact toBelow (impl_PowerWord_c l0 n1 w (by omega) (by omega)) | exact toBelow1 (impl_PowerWord_c l0 n1 w (by omega) (by omega)) | exact toBelow2 (impl_PowerWord_c l0 n1 w (by omega) (by omega))
  generalize (M.PowerWord l0 n1).1 = z0 at *
  generalize (M.PowerWord l0 n1).2 = z1 at *
  have h1 := Lib.hid H1
  have h2 := Lib.hid H2
  clear H1 H2
  cases z1
  all_goals
    go_enter Try.func11, Try.ntmps11
    go_wp2_with fail
    refine (h1.out _).mono ?_
    rintro e w1 ⟨rfl, hb1⟩
    go_wp2_with fail
    refine (h2.out _).mono ?_
    rintro e w2 ⟨rfl, hb2⟩
    go_wp2_with fail
    go_ret
    exact ⟨rfl, hb1.trans (hb2.mono hb1.size)⟩

set_option maxRecDepth 100000 in
theorem lifted (os : Os) (started : os.Started) (H : Type) (enc : TypeId × Value → H) :
    ReturnsInHanded {} Try.checked os 11 .any (Rows.fnExactPowerWordSpec.pre6 enc Try.prog Try.f11 Rows.fnExactPowerWordRow.domain false) (Rows.fnExactPowerWordSpec.post enc Try.prog Try.f11 false true false false) := by
  refine returnsInHanded_of_change (C := Try.checked) Try.own started (by kernel_rfl) Try.func11
    (ChangeSpec.witness6 (enc := enc) (C := Try.checked) false ⟨#[], #[.string ByteArray.empty, .int .i64 0], []⟩ 8 (by kernel_rfl) (by kernel_rfl) (by kernel_rfl) (by kernel_rfl)) ?_
  intro W base args ds gs before hval0 hW hcnd _
  have hval : ∀ (j : Nat) t v, Try.f11.params[j]? = some t → args[j]? = some v → Value.okWide Try.prog W .any base t v := hval0
  have hW' := hW
  have hlt : ∀ x ∈ before, x.block < W.heap.size := fun x hx => hW.lt x hx
  obtain ⟨p, q, hA0, hV, rfl, hfz, hnd⟩ := hW
  have hA : DataW.TrodAll enc Try.prog W 0 (fun _ => true) true Try.f11.params.toList args.toList ds p := hA0
  rw [Try.params11] at hA hval
  obtain ⟨v0, v1, d0, d1, p0, p1, rfl, rfl, rfl, h0, h1⟩ := trodAll_two hA
  clear hA0 hval0 hfz hnd
  obtain ⟨s0, rfl, rfl, rfl, hs0⟩ := Go.ChangeMaps.open_string Try.underlying9 (hval 0 9 v0 rfl rfl) h0
  obtain ⟨l0, rfl⟩ := bytesList s0
  have hl0 := bytesLen hs0
  obtain ⟨n1, rfl, rfl, rfl, wf1⟩ := open_int Try.underlying3 (hval 1 3 v1 rfl rfl) h1
  have hn1 := intBounds wf1
  refine (walk l0 n1 W hl0 hn1).mono fun e W' ⟨he, hg⟩ => ?_
  subst he
  exact ⟨_, rfl, lawPost Try.laidOut (by kernel_rfl) (by kernel_rfl) Try.boolType rfl rfl hW' hg⟩

theorem proved : Rows.FnExactPowerWordSaid :=
  OpenClaim.holds_of_wide 11 Try.f11 rfl rfl rfl rfl rfl rfl rfl ⟨rfl, rfl, rfl, rfl, rfl⟩ rfl rfl rfl rfl rfl (by kernel_rfl) Try.func11 (by kernel_rfl)
    (of_decide_eq_true (by kernel_rfl)) (by unfold Func.isWrapper; first | (rw [if_pos (by decide +kernel)]; kernel_rfl) | (rw [if_neg (by decide +kernel)]; exact ⟨rfl, rfl⟩))
    (fun os started H enc _ => lifted os started H enc)
#print axioms proved
end Go.Proofs.Ytegkbpnbboicmaa.lawExactPowerWord
