/-
  The law FnExactSplitLines returns true for every input, and leaves its arguments as they were.
  Conditions: the listed variables read as the program's text lays them.
-/
import Derived.Test.YtkdccehihpgcdaaDoorCard
import Derived.Test.YtkdccehihpgcdaaDoorSplitL
import Derived.Test.YtkdccehihpgcdaaDoorMarkC
import Derived.Test.YtkdccehihpgcdaaDoorMaxLen
namespace Go.Proofs.YtkdccehihpgcdaaDoor.lawExactSplitLines
open Go.ChangeShapes Go.WideShapes Go.ChangeAt Go.RowKit
set_option linter.unusedVariables false

set_option maxRecDepth 100000 in
set_option maxHeartbeats 2000000 in
theorem walk (m : Int) (l0 : List UInt8) (w : World) (hl0 : l0.length ≤ 9223372036854775807) (hm : w.cell? ⟨2, 0, none⟩ = some (.int .i64 m)) :
    Calls Tryd.prog 6 #[.string ⟨l0.toArray⟩] w fun e w' => e = .returned (.bool true) ∧ Below w.heap.size w w' := by
  by_cases hs_l0 : 1048576 < l0.length
  · go_enter Tryd.func6, Tryd.ntmps6
    go_wp2
    go_ret
    exact ⟨rfl, Below.refl _ _⟩
  have H1 := fun w => spec_SplitLines_c l0 w (by omega)
  have H2 := fun w hm => impl_SplitLines_c m l0 w (by omega) hm
  have hlen : (M.SplitLines l0).length ≤ 1048577 := Nat.le_trans (splitLines_len _) (by omega)
  have HM0 := Lib.hid hm
  generalize M.SplitLines l0 = zs at *
  have h1 := Lib.hid H1
  have h2 := Lib.hid H2
  clear H1 H2 hm
  go_enter Tryd.func6, Tryd.ntmps6
  go_wp2_with fail
  refine (h1.out _).mono ?_
  rintro e w1 ⟨A1, c1, rfl, hown, hb⟩
  have R1 := Lib.hid hown.rd
  have T1 := Lib.hid hb
  clear hown hb
  go_wp2_with fail
  refine (h2.out _ (cellKeep T1.out HM0.out)).mono ?_
  rintro e w2 ⟨A2, c2, rfl, hown, hb⟩
  have O2 := Lib.hid hown
  have R2 := Lib.hid (R1.out.below hb)
  have T2 := Lib.hid (T1.out.trans (hb.mono T1.out.size))
  clear hown hb
  go_wp2_with fail
  refine (eqStringS_t A2 A1 c2 c1 zs _ O2.out.rd R2.out (by omega)).mono ?_
  rintro e w3 ⟨rfl, hb⟩
  have O3 := Lib.hid (O2.out.below hb)
  have R3 := Lib.hid (R2.out.below hb)
  have T3 := Lib.hid (T2.out.trans (hb.mono T2.out.size))
  clear hb
  go_wp2_with fail
  refine (markStringS_c A2 zs.length c2 _ _ 1 _ O3.out (by omega) (by omega) (by omega)).mono ?_
  rintro e w4 ⟨rfl, ho, hg⟩
  have O4 := Lib.hid ho
  have R4 := Lib.hid (R3.out.mark (by decide) R1.out O3.out (Nat.le_refl _) hg)
  have T4 := Lib.hid (below_mark T3.out O3.out T1.out.size T3.out.size hg)
  clear ho hg
  go_wp2_with fail
  refine (heldStringS_c A2 zs.length c2 1 _ O4.out.rd (by omega) (by omega) (by omega)).mono ?_
  rintro e w5 ⟨rfl, hb⟩
  have O5 := Lib.hid (O4.out.below hb)
  have R5 := Lib.hid (R4.out.below hb)
  have T5 := Lib.hid (T4.out.trans (hb.mono T4.out.size))
  clear hb
  go_wp2_with fail
  refine (h2.out _ (cellKeep T5.out HM0.out)).mono ?_
  rintro e w6 ⟨A6, c6, rfl, hown, hb⟩
  have P6 := Lib.hid hown.rd
  have O6 := Lib.hid (O5.out.below hb)
  have R6 := Lib.hid (R5.out.below hb)
  have T6 := Lib.hid (T5.out.trans (hb.mono T5.out.size))
  clear hown hb
  go_wp2_with fail
  refine (eqStringS_t A6 A1 c6 c1 zs _ P6.out R6.out (by omega)).mono ?_
  rintro e w7 ⟨rfl, hb⟩
  have O7 := Lib.hid (O6.out.below hb)
  have R7 := Lib.hid (R6.out.below hb)
  have T7 := Lib.hid (T6.out.trans (hb.mono T6.out.size))
  clear hb
  go_wp2_with fail
  refine (heldStringS_c A2 zs.length c2 1 _ O7.out.rd (by omega) (by omega) (by omega)).mono ?_
  rintro e w8 ⟨rfl, hb⟩
  have O8 := Lib.hid (O7.out.below hb)
  have R8 := Lib.hid (R7.out.below hb)
  have T8 := Lib.hid (T7.out.trans (hb.mono T7.out.size))
  clear hb
  go_wp2_with fail
  go_ret
  exact ⟨rfl, T8.out⟩

set_option maxRecDepth 100000 in
theorem lifted (os : Os) (started : os.Started) (H : Type) (enc : TypeId × Value → H) :
    ReturnsInHanded {} Tryd.checked os 6 .any (fun w args => (Rows.fnExactSplitLinesSpec.pre enc Tryd.prog Tryd.f6 Rows.fnExactSplitLinesRow.domain false w args ∧ laidMetH Tryd.prog Rows.fnExactSplitLinesRow.laid w) ∧ sizedMet enc Tryd.prog Tryd.f6 (OpenSpec.ofChange Rows.fnExactSplitLinesSpec) false w args) (Rows.fnExactSplitLinesSpec.post enc Tryd.prog Tryd.f6 false true false false) := by
  refine returnsInHanded_laid (C := Tryd.checked) (X := fun w _ => laidMetH Tryd.prog Rows.fnExactSplitLinesRow.laid w) (fun _ _ _ hh h => h.of_heap hh) Tryd.own started (by kernel_rfl) Tryd.func6
    (ChangeSpec.witness_shaped (enc := enc) (C := Tryd.checked) (os := os) (X := fun w _ => laidMetH Tryd.prog Rows.fnExactSplitLinesRow.laid w) false (World.laidAll Tryd.prog os Rows.fnExactSplitLinesRow.laid) #[.string ByteArray.empty] 8 (World.laidAll_os _ _ _)
      (World.shaped_of_ZipB (by kernel_rfl) (by kernel_rfl)) (by kernel_rfl) (by kernel_rfl) (by kernel_rfl)
      (by rw [MakeChecks.laidMetH_plain _ _ _ (by kernel_rfl)]; exact laidMet_laidAll _ (by kernel_rfl) (by kernel_rfl))) ?_
  intro W base args ds gs before hval0 hW hL hsh
  rw [MakeChecks.laidMetH_plain _ _ _ (by kernel_rfl)] at hL
  have hval : ∀ (j : Nat) t v, Tryd.f6.params[j]? = some t → args[j]? = some v → Value.okWide Tryd.prog W .any base t v := hval0
  have hW' := hW
  have hlt : ∀ x ∈ before, x.block < W.heap.size := fun x hx => hW.lt x hx
  obtain ⟨p, q, hA0, hV, rfl, hfz, hnd⟩ := hW
  have hA : DataW.TrodAll enc Tryd.prog W 0 (fun _ => true) true Tryd.f6.params.toList args.toList ds p := hA0
  rw [Tryd.params6] at hA hval
  obtain ⟨v0, d0, rfl, rfl, h0⟩ := trodAll_one hA
  clear hA0 hval0 hfz hnd
  obtain ⟨s0, rfl, rfl, rfl, hs0⟩ := Go.ChangeMaps.open_string Tryd.underlying9 (hval 0 9 v0 rfl rfl) h0
  obtain ⟨l0, rfl⟩ := bytesList s0
  have hl0 := bytesLen hs0
  obtain ⟨m, hm⟩ := maxLen_of W hsh
  refine (walk m l0 W hl0 hm).mono fun e W' ⟨he, hg⟩ => ?_
  subst he
  exact ⟨_, rfl, lawPost Tryd.laidOut (by kernel_rfl) (by kernel_rfl) Tryd.boolType rfl rfl hW' hg⟩

theorem row_holds : Rows.FnExactSplitLinesSaid :=
  OpenClaim.holds_of_wide 6 Tryd.f6 rfl rfl rfl rfl rfl rfl rfl ⟨rfl, rfl, rfl, rfl, rfl⟩ rfl rfl rfl rfl rfl (by kernel_rfl) Tryd.func6 (by kernel_rfl)
    (of_decide_eq_true (by kernel_rfl)) (by unfold Func.isWrapper; first | (rw [if_pos (by decide +kernel)]; kernel_rfl) | (rw [if_neg (by decide +kernel)]; exact ⟨rfl, rfl⟩))
    (fun os started H enc _ => lifted os started H enc)

theorem proved : Rows.FnExactSplitLinesCardSaid :=
  Claim7.holds_tied_plain_at (c := Rows.fnExactSplitLinesRow) .later [] _ true _ true row_holds (fun _ h => by cases h) (by kernel_rfl) (fun _ h => by cases h) fnExactSplitLines_row_tie rfl ⟨rfl, rfl⟩ (by kernel_rfl) rfl
    (fun f fn hf hfn => by
      obtain rfl : f = 6 := Option.some.inj ((show Tryd.prog.funcNamed "loop.example/g03201/laws.FnExactSplitLines" = some 6 by kernel_rfl).symm.trans hf) |>.symm
      obtain rfl : fn = Tryd.f6 := (Option.some.inj (Tryd.func6.symm.trans hfn)).symm
      exact ⟨by kernel_rfl, fun j t ht => by
        rw [Tryd.params6] at ht
        have hm : t ∈ [9] := by simpa using Array.mem_of_getElem? ht
        have hall : ([9].all fun u => !Tryd.prog.wantsStandIn u) = true := by kernel_rfl
        exact (show Tryd.prog.wantsStandIn t = false by simpa using List.all_eq_true.1 hall t hm)⟩)
    (by kernel_rfl)
#print axioms proved
end Go.Proofs.YtkdccehihpgcdaaDoor.lawExactSplitLines
