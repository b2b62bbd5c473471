/-
  The law FnExactRootOf returns true for every input, and leaves its arguments as they were.
  Conditions: none.
-/
import Derived.Test.YtegkbpnbboicmaaOpen
import Derived.Test.YtegkbpnbboicmaaPower
import Derived.Test.YtegkbpnbboicmaaToB
namespace Go.Proofs.Ytegkbpnbboicmaa.lawExactRootOf
open Go.ChangeShapes Go.WideShapes Go.ChangeAt Go.RowKit
set_option linter.unusedVariables false

set_option maxRecDepth 100000 in
set_option maxHeartbeats 2000000 in
theorem walk (l0 : List UInt8) (w : World) (hl0 : l0.length ≤ 9223372036854775807) :
    Calls Try.prog 12 #[.string ⟨l0.toArray⟩] w fun e w' => e = .returned (.bool true) ∧ Below w.heap.size w w' := by
  by_cases hs_l0 : 1048576 < l0.length
  · go_enter Try.func12, Try.ntmps12
    go_wp2
    go_ret
    exact ⟨rfl, Below.refl _ _⟩
  have H1 : ∀ w, Calls Try.prog 40 #[.string ⟨l0.toArray⟩] w (fun e w' => e = .returned (.tuple #[.string ⟨((M.RootOf l0).1).toArray⟩, .int .i64 ((M.RootOf l0).2)]) ∧ Below w.heap.size w w') := fun w => by first | exact toBelow (spec_RootOf_c l0 w (by omega)) | exact toBelow1 (spec_RootOf_c l0 w (by omega)) | exact toBelow2 (spec_RootOf_c l0 w (by omega))
  have H2 : ∀ w, Calls Try.prog 41 #[.string ⟨l0.toArray⟩] w (fun e w' => e = .returned (.tuple #[.string ⟨((M.RootOf l0).1).toArray⟩, .int .i64 ((M.RootOf l0).2)]) ∧ Below w.heap.size w w') := fun w => by first | exact toBelow (impl_RootOf_c l0 w (by omega)) | exact toBelow1 (impl_RootOf_c l0 w (by omega)) | exact toBelow2 (impl_RootOf_c l0 w (by omega))
  generalize (M.RootOf l0).1 = z0 at *
  generalize (M.RootOf l0).2 = z1 at *
  have h1 := Lib.hid H1
  have h2 := Lib.hid H2
  clear H1 H2
  go_enter Try.func12, Try.ntmps12
  go_wp2_with fail
  refine (h1.out _).mono ?_
  rintro e w1 ⟨rfl, hb1⟩
  go_wp2_with fail
  refine (h2.out _).mono ?_
  rintro e w2 ⟨rfl, hb2⟩
  go_wp2_with fail
  go_ret
  exact ⟨rfl, hb1.trans (hb2.mono hb1.size)⟩

set_option maxRecDepth 100000 in
theorem lifted (os : Os) (started : os.Started) (H : Type) (enc : TypeId × Value → H) :
    ReturnsInHanded {} Try.checked os 12 .any (Rows.fnExactRootOfSpec.pre6 enc Try.prog Try.f12 Rows.fnExactRootOfRow.domain false) (Rows.fnExactRootOfSpec.post enc Try.prog Try.f12 false true false false) := by
  refine returnsInHanded_of_change (C := Try.checked) Try.own started (by kernel_rfl) Try.func12
    (ChangeSpec.witness6 (enc := enc) (C := Try.checked) false ⟨#[], #[.string ByteArray.empty], []⟩ 8 (by kernel_rfl) (by kernel_rfl) (by kernel_rfl) (by kernel_rfl)) ?_
  intro W base args ds gs before hval0 hW hcnd _
  have hval : ∀ (j : Nat) t v, Try.f12.params[j]? = some t → args[j]? = some v → Value.okWide Try.prog W .any base t v := hval0
  have hW' := hW
  have hlt : ∀ x ∈ before, x.block < W.heap.size := fun x hx => hW.lt x hx
  obtain ⟨p, q, hA0, hV, rfl, hfz, hnd⟩ := hW
  have hA : DataW.TrodAll enc Try.prog W 0 (fun _ => true) true Try.f12.params.toList args.toList ds p := hA0
  rw [Try.params12] at hA hval
  obtain ⟨v0, d0, rfl, rfl, h0⟩ := trodAll_one hA
  clear hA0 hval0 hfz hnd
  obtain ⟨s0, rfl, rfl, rfl, hs0⟩ := Go.ChangeMaps.open_string Try.underlying9 (hval 0 9 v0 rfl rfl) h0
  obtain ⟨l0, rfl⟩ := bytesList s0
  have hl0 := bytesLen hs0
  refine (walk l0 W hl0).mono fun e W' ⟨he, hg⟩ => ?_
  subst he
  exact ⟨_, rfl, lawPost Try.laidOut (by kernel_rfl) (by kernel_rfl) Try.boolType rfl rfl hW' hg⟩

theorem proved : Rows.FnExactRootOfSaid :=
  OpenClaim.holds_of_wide 12 Try.f12 rfl rfl rfl rfl rfl rfl rfl ⟨rfl, rfl, rfl, rfl, rfl⟩ rfl rfl rfl rfl rfl (by kernel_rfl) Try.func12 (by kernel_rfl)
    (of_decide_eq_true (by kernel_rfl)) (by unfold Func.isWrapper; first | (rw [if_pos (by decide +kernel)]; kernel_rfl) | (rw [if_neg (by decide +kernel)]; exact ⟨rfl, rfl⟩))
    (fun os started H enc _ => lifted os started H enc)
#print axioms proved
end Go.Proofs.Ytegkbpnbboicmaa.lawExactRootOf
