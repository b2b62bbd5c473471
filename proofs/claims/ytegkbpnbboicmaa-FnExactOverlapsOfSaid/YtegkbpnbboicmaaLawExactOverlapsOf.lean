/-
  The law FnExactOverlapsOf returns true for every input, and leaves its arguments as they were.
  Conditions: none.
-/
import Derived.Test.YtegkbpnbboicmaaOpen
import Derived.Test.YtegkbpnbboicmaaPlaces
import Derived.Test.YtegkbpnbboicmaaEqC
namespace Go.Proofs.Ytegkbpnbboicmaa.lawExactOverlapsOf
open Go.ChangeShapes Go.WideShapes Go.ChangeAt Go.RowKit
set_option linter.unusedVariables false

set_option maxRecDepth 100000 in
set_option maxHeartbeats 2000000 in
theorem walk (l0 : List UInt8) (l1 : List UInt8) (w : World) (hl0 : l0.length ≤ 9223372036854775807) (hl1 : l1.length ≤ 9223372036854775807) :
    Calls Try.prog 4 #[.string ⟨l0.toArray⟩, .string ⟨l1.toArray⟩] w fun e w' => e = .returned (.bool true) ∧ Below w.heap.size w w' := by
  by_cases hs_l0 : 1048576 < l0.length
  · go_enter Try.func4, Try.ntmps4
    go_wp2
    go_ret
    exact ⟨rfl, Below.refl _ _⟩
  by_cases hs_l1 : 1048576 < l1.length
  · go_enter Try.func4, Try.ntmps4
    go_wp2
    go_ret
    exact ⟨rfl, Below.refl _ _⟩
  have H1 := fun w => spec_OverlapsOf_c l0 l1 w (by omega) (by omega)
  have H2 := fun w => impl_OverlapsOf_c l0 l1 w (by omega) (by omega)
  have hlen : (M.OverlapsOf l0 l1).length ≤ 1048577 := Nat.le_trans (M.sel_len _ _) (by omega)
  generalize M.OverlapsOf l0 l1 = zs at *
  have h1 := Lib.hid H1
  have h2 := Lib.hid H2
  clear H1 H2
  go_enter Try.func4, Try.ntmps4
  go_wp2_with fail
  refine (h1.out _).mono ?_
  rintro e w1 ⟨A1, c1, rfl, hown, hb⟩
  have R1 := Lib.hid (Rd.of_own hown)
  have T1 := Lib.hid hb
  clear hown hb
  go_wp2_with fail
  refine (h2.out _).mono ?_
  rintro e w2 ⟨A2, c2, rfl, hown, hb⟩
  have O2 := Lib.hid (Own.of_row hown)
  have R2 := Lib.hid (R1.out.below hb)
  have T2 := Lib.hid (T1.out.trans (hb.mono T1.out.size))
  clear hown hb
  go_wp2_with fail
  refine (eqIntS_t A2 A1 c2 c1 zs _ O2.out.rd R2.out (by omega)).mono ?_
  rintro e w3 ⟨rfl, hb⟩
  have O3 := Lib.hid (O2.out.below hb)
  have R3 := Lib.hid (R2.out.below hb)
  have T3 := Lib.hid (T2.out.trans (hb.mono T2.out.size))
  clear hb
  go_wp2_with fail
  refine (markIntS_c A2 zs.length c2 _ _ 1 _ O3.out (by omega) (by omega) (by omega)).mono ?_
  rintro e w4 ⟨rfl, ho, hg⟩
  have O4 := Lib.hid ho
  have R4 := Lib.hid (R3.out.mark (by decide) R1.out O3.out (Nat.le_refl _) hg)
  have T4 := Lib.hid (below_mark T3.out O3.out T1.out.size T3.out.size hg)
  clear ho hg
  go_wp2_with fail
  refine (heldIntS_c A2 zs.length c2 1 _ O4.out.rd (by omega) (by omega) (by omega)).mono ?_
  rintro e w5 ⟨rfl, hb⟩
  have O5 := Lib.hid (O4.out.below hb)
  have R5 := Lib.hid (R4.out.below hb)
  have T5 := Lib.hid (T4.out.trans (hb.mono T4.out.size))
  clear hb
  go_wp2_with fail
  refine (h2.out _).mono ?_
  rintro e w6 ⟨A6, c6, rfl, hown, hb⟩
  have P6 := Lib.hid (Rd.of_own hown)
  have O6 := Lib.hid (O5.out.below hb)
  have R6 := Lib.hid (R5.out.below hb)
  have T6 := Lib.hid (T5.out.trans (hb.mono T5.out.size))
  clear hown hb
  go_wp2_with fail
  refine (eqIntS_t A6 A1 c6 c1 zs _ P6.out R6.out (by omega)).mono ?_
  rintro e w7 ⟨rfl, hb⟩
  have O7 := Lib.hid (O6.out.below hb)
  have R7 := Lib.hid (R6.out.below hb)
  have T7 := Lib.hid (T6.out.trans (hb.mono T6.out.size))
  clear hb
  go_wp2_with fail
  refine (heldIntS_c A2 zs.length c2 1 _ O7.out.rd (by omega) (by omega) (by omega)).mono ?_
  rintro e w8 ⟨rfl, hb⟩
  have O8 := Lib.hid (O7.out.below hb)
  have R8 := Lib.hid (R7.out.below hb)
  have T8 := Lib.hid (T7.out.trans (hb.mono T7.out.size))
  clear hb
  go_wp2_with fail
  go_ret
  exact ⟨rfl, T8.out⟩

set_option maxRecDepth 100000 in
theorem lifted (os : Os) (started : os.Started) (H : Type) (enc : TypeId × Value → H) :
    ReturnsInHanded {} Try.checked os 4 .any (Rows.fnExactOverlapsOfSpec.pre6 enc Try.prog Try.f4 Rows.fnExactOverlapsOfRow.domain false) (Rows.fnExactOverlapsOfSpec.post enc Try.prog Try.f4 false true false false) := by
  refine returnsInHanded_of_change (C := Try.checked) Try.own started (by kernel_rfl) Try.func4
    (ChangeSpec.witness6 (enc := enc) (C := Try.checked) false ⟨#[], #[.string ByteArray.empty, .string ByteArray.empty], []⟩ 8 (by kernel_rfl) (by kernel_rfl) (by kernel_rfl) (by kernel_rfl)) ?_
  intro W base args ds gs before hval0 hW hcnd _
  have hval : ∀ (j : Nat) t v, Try.f4.params[j]? = some t → args[j]? = some v → Value.okWide Try.prog W .any base t v := hval0
  have hW' := hW
  have hlt : ∀ x ∈ before, x.block < W.heap.size := fun x hx => hW.lt x hx
  obtain ⟨p, q, hA0, hV, rfl, hfz, hnd⟩ := hW
  have hA : DataW.TrodAll enc Try.prog W 0 (fun _ => true) true Try.f4.params.toList args.toList ds p := hA0
  rw [Try.params4] at hA hval
  obtain ⟨v0, v1, d0, d1, p0, p1, rfl, rfl, rfl, h0, h1⟩ := trodAll_two hA
  clear hA0 hval0 hfz hnd
  obtain ⟨s0, rfl, rfl, rfl, hs0⟩ := Go.ChangeMaps.open_string Try.underlying9 (hval 0 9 v0 rfl rfl) h0
  obtain ⟨l0, rfl⟩ := bytesList s0
  have hl0 := bytesLen hs0
  obtain ⟨s1, rfl, rfl, rfl, hs1⟩ := Go.ChangeMaps.open_string Try.underlying9 (hval 1 9 v1 rfl rfl) h1
  obtain ⟨l1, rfl⟩ := bytesList s1
  have hl1 := bytesLen hs1
  refine (walk l0 l1 W hl0 hl1).mono fun e W' ⟨he, hg⟩ => ?_
  subst he
  exact ⟨_, rfl, lawPost Try.laidOut (by kernel_rfl) (by kernel_rfl) Try.boolType rfl rfl hW' hg⟩

theorem proved : Rows.FnExactOverlapsOfSaid :=
  OpenClaim.holds_of_wide 4 Try.f4 rfl rfl rfl rfl rfl rfl rfl ⟨rfl, rfl, rfl, rfl, rfl⟩ rfl rfl rfl rfl rfl (by kernel_rfl) Try.func4 (by kernel_rfl)
    (of_decide_eq_true (by kernel_rfl)) (by unfold Func.isWrapper; first | (rw [if_pos (by decide +kernel)]; kernel_rfl) | (rw [if_neg (by decide +kernel)]; exact ⟨rfl, rfl⟩))
    (fun os started H enc _ => lifted os started H enc)
#print axioms proved
end Go.Proofs.Ytegkbpnbboicmaa.lawExactOverlapsOf
