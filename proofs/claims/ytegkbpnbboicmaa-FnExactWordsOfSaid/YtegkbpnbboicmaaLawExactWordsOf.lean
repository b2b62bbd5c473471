/-
  The law FnExactWordsOf returns true for every input, and leaves its arguments as they were.
  Conditions: none.
-/
import Derived.Test.YtegkbpnbboicmaaOpen
import Derived.Test.YtegkbpnbboicmaaWords
namespace Go.Proofs.Ytegkbpnbboicmaa.lawExactWordsOf
open Go.ChangeShapes Go.WideShapes Go.ChangeAt Go.RowKit
set_option linter.unusedVariables false

set_option maxRecDepth 100000 in
set_option maxHeartbeats 2000000 in
theorem walk (n0 : Int) (n1 : Int) (w : World) (hn0 : -9223372036854775808 ≤ n0 ∧ n0 ≤ 9223372036854775807) (hn1 : -9223372036854775808 ≤ n1 ∧ n1 ≤ 9223372036854775807) :
    Calls Try.prog 7 #[.int .i64 n0, .int .i64 n1] w fun e w' => e = .returned (.bool true) ∧ Below w.heap.size w w' := by
  have H1 := fun w => spec_WordsOf_c n0 n1 w 
  have H2 := fun w => impl_WordsOf_c n0 n1 w 
  have hlen : ((M.WordsOf n0 n1).1).length ≤ 1048577 := Nat.le_trans (M.WordsOf_len _ _) (by omega)
  generalize (M.WordsOf n0 n1).1 = zs at *
  generalize (M.WordsOf n0 n1).2 = b at *
  have h1 := Lib.hid H1
  have h2 := Lib.hid H2
  clear H1 H2
  cases b
  all_goals
    go_enter Try.func7, Try.ntmps7
    go_wp2_with fail
    refine (h1.out _).mono ?_
    rintro e w1 ⟨A1, c1, rfl, hown, hb⟩
    have R1 := Lib.hid (Rd.of_own hown)
    have T1 := Lib.hid hb
    clear hown hb
    go_wp2_with fail
    refine (h2.out _).mono ?_
    rintro e w2 ⟨A2, c2, rfl, hown, hb⟩
    have O2 := Lib.hid (Own.of_row hown)
    have R2 := Lib.hid (R1.out.below hb)
    have T2 := Lib.hid (T1.out.trans (hb.mono T1.out.size))
    clear hown hb
    go_wp2_with fail
    refine (eqStringS_t A2 A1 c2 c1 zs _ O2.out.rd R2.out (by omega)).mono ?_
    rintro e w3 ⟨rfl, hb⟩
    have O3 := Lib.hid (O2.out.below hb)
    have R3 := Lib.hid (R2.out.below hb)
    have T3 := Lib.hid (T2.out.trans (hb.mono T2.out.size))
    clear hb
    go_wp2_with fail
    refine (markStringS_c A2 zs.length c2 _ _ 1 _ O3.out (by omega) (by omega) (by omega)).mono ?_
    rintro e w4 ⟨rfl, ho, hg⟩
    have O4 := Lib.hid ho
    have R4 := Lib.hid (R3.out.mark (by decide) R1.out O3.out (Nat.le_refl _) hg)
    have T4 := Lib.hid (below_mark T3.out O3.out T1.out.size T3.out.size hg)
    clear ho hg
    go_wp2_with fail
    refine (heldStringS_c A2 zs.length c2 1 _ O4.out.rd (by omega) (by omega) (by omega)).mono ?_
    rintro e w5 ⟨rfl, hb⟩
    have O5 := Lib.hid (O4.out.below hb)
    have R5 := Lib.hid (R4.out.below hb)
    have T5 := Lib.hid (T4.out.trans (hb.mono T4.out.size))
    clear hb
    go_wp2_with fail
    refine (h2.out _).mono ?_
    rintro e w6 ⟨A6, c6, rfl, hown, hb⟩
    have P6 := Lib.hid (Rd.of_own hown)
    have O6 := Lib.hid (O5.out.below hb)
    have R6 := Lib.hid (R5.out.below hb)
    have T6 := Lib.hid (T5.out.trans (hb.mono T5.out.size))
    clear hown hb
    go_wp2_with fail
    refine (eqStringS_t A6 A1 c6 c1 zs _ P6.out R6.out (by omega)).mono ?_
    rintro e w7 ⟨rfl, hb⟩
    have O7 := Lib.hid (O6.out.below hb)
    have R7 := Lib.hid (R6.out.below hb)
    have T7 := Lib.hid (T6.out.trans (hb.mono T6.out.size))
    clear hb
    go_wp2_with fail
    refine (heldStringS_c A2 zs.length c2 1 _ O7.out.rd (by omega) (by omega) (by omega)).mono ?_
    rintro e w8 ⟨rfl, hb⟩
    have O8 := Lib.hid (O7.out.below hb)
    have R8 := Lib.hid (R7.out.below hb)
    have T8 := Lib.hid (T7.out.trans (hb.mono T7.out.size))
    clear hb
    go_wp2_with fail
    go_ret
    exact ⟨rfl, T8.out⟩

set_option maxRecDepth 100000 in
theorem lifted (os : Os) (started : os.Started) (H : Type) (enc : TypeId × Value → H) :
    ReturnsInHanded {} Try.checked os 7 .any (Rows.fnExactWordsOfSpec.pre6 enc Try.prog Try.f7 Rows.fnExactWordsOfRow.domain false) (Rows.fnExactWordsOfSpec.post enc Try.prog Try.f7 false true false false) := by
  refine returnsInHanded_of_change (C := Try.checked) Try.own started (by kernel_rfl) Try.func7
    (ChangeSpec.witness6 (enc := enc) (C := Try.checked) false ⟨#[], #[.int .i64 0, .int .i64 0], []⟩ 8 (by kernel_rfl) (by kernel_rfl) (by kernel_rfl) (by kernel_rfl)) ?_
  intro W base args ds gs before hval0 hW hcnd _
  have hval : ∀ (j : Nat) t v, Try.f7.params[j]? = some t → args[j]? = some v → Value.okWide Try.prog W .any base t v := hval0
  have hW' := hW
  have hlt : ∀ x ∈ before, x.block < W.heap.size := fun x hx => hW.lt x hx
  obtain ⟨p, q, hA0, hV, rfl, hfz, hnd⟩ := hW
  have hA : DataW.TrodAll enc Try.prog W 0 (fun _ => true) true Try.f7.params.toList args.toList ds p := hA0
  rw [Try.params7] at hA hval
  obtain ⟨v0, v1, d0, d1, p0, p1, rfl, rfl, rfl, h0, h1⟩ := trodAll_two hA
  clear hA0 hval0 hfz hnd
  obtain ⟨n0, rfl, rfl, rfl, wf0⟩ := open_int Try.underlying3 (hval 0 3 v0 rfl rfl) h0
  have hn0 := intBounds wf0
  obtain ⟨n1, rfl, rfl, rfl, wf1⟩ := open_int Try.underlying3 (hval 1 3 v1 rfl rfl) h1
  have hn1 := intBounds wf1
  refine (walk n0 n1 W hn0 hn1).mono fun e W' ⟨he, hg⟩ => ?_
  subst he
  exact ⟨_, rfl, lawPost Try.laidOut (by kernel_rfl) (by kernel_rfl) Try.boolType rfl rfl hW' hg⟩

theorem proved : Rows.FnExactWordsOfSaid :=
  OpenClaim.holds_of_wide 7 Try.f7 rfl rfl rfl rfl rfl rfl rfl ⟨rfl, rfl, rfl, rfl, rfl⟩ rfl rfl rfl rfl rfl (by kernel_rfl) Try.func7 (by kernel_rfl)
    (of_decide_eq_true (by kernel_rfl)) (by unfold Func.isWrapper; first | (rw [if_pos (by decide +kernel)]; kernel_rfl) | (rw [if_neg (by decide +kernel)]; exact ⟨rfl, rfl⟩))
    (fun os started H enc _ => lifted os started H enc)
#print axioms proved
end Go.Proofs.Ytegkbpnbboicmaa.lawExactWordsOf
