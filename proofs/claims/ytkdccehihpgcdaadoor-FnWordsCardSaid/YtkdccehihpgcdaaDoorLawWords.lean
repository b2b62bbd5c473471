/-
  The law FnWords returns true for every input, and leaves its arguments as they were.
  Conditions: the listed variables read as the program's text lays them.
-/
import Derived.Test.YtkdccehihpgcdaaDoorCard
import Derived.Test.YtkdccehihpgcdaaDoorText
import Derived.Test.YtkdccehihpgcdaaDoorPInt
import Derived.Test.YtkdccehihpgcdaaDoorSplitL
import Derived.Test.YtkdccehihpgcdaaDoorWordName
import Derived.Test.YtkdccehihpgcdaaDoorFmtSys
import Derived.Test.YtkdccehihpgcdaaDoorOpenU8
import Derived.Test.YtkdccehihpgcdaaDoorMaxLen
namespace Go.Proofs.YtkdccehihpgcdaaDoor.lawWords
open Go.ChangeShapes Go.WideShapes Go.ChangeAt Go.RowKit
set_option linter.unusedVariables false

set_option maxRecDepth 100000 in
set_option maxHeartbeats 4000000 in
theorem walk (m : Int) (A : Option Addr) (c : Nat) (bs : List UInt8) (w : World) (hr : bs.length ≤ 9223372036854775807 ∧ Rd w 1 A bs.length (u8s bs)) (hm : w.cell? ⟨2, 0, none⟩ = some (.int .i64 m)) (ht : Tab10 w) (he : Errs w) :
    Calls Tryd.prog 5 #[.slice A bs.length c] w fun e w' => e = .returned (.bool true) ∧ Below w.heap.size w w' := by
  obtain ⟨hl, hA⟩ := hr
  obtain ⟨n, hn⟩ : ∃ n, n = bs.length := ⟨_, rfl⟩
  rw [← hn] at hA hl ⊢
  have RA := Lib.hid hA
  have HM := Lib.hid hm
  have HT := Lib.hid ht
  have HE := Lib.hid he
  clear hA hn hm ht he
  by_cases hbig : 1048576 < n
  · go_enter Tryd.func5, Tryd.ntmps5
    go_wp2
    go_ret
    exact ⟨rfl, Below.refl _ _⟩
  have hnb : n ≤ 1048576 := by omega
  have M1 := Lib.hid (fun W h => MakeNum_c A n c bs 1 W h hnb (by omega))
  have M2 := Lib.hid (fun W h => MakeText_c A n c bs W h hnb)
  go_enter Tryd.func5, Tryd.ntmps5
  go_wp2_with fail
  refine (M1.out _ RA.out).mono ?_
  rintro e w1 ⟨⟨z, rfl, hz0, hz1⟩, hb⟩
  have T1 := Lib.hid hb
  clear hb
  obtain ⟨v, hv⟩ : ∃ v, v = z - 30000 := ⟨_, rfl⟩
  have hv0 : -30000 ≤ v ∧ v ≤ 35535 := by omega
  have hzv : z = v + 30000 := by omega
  have hzz : v + 30000 - 30000 = v := by omega
  subst hzv
  clear hv hz0 hz1
  have HF := Lib.hid (fun W ht => impl_FormatInt_c v W (by omega) (by omega) ht)
  have hfl := itoa_len v (by omega) (by omega)
  have HP := Lib.hid (fun W ht he => impl_ParseInt_c (Lib.itoa v) W (by omega) ht he)
  rw [parse_itoa v ⟨by omega, by omega⟩] at HP
  simp only at HP
  generalize Lib.itoa v = f at *
  go_wp2_with fail
  refine (HF.out _ (HT.out.below T1.out)).mono ?_
  rintro e w2 ⟨rfl, hb⟩
  have T2 := Lib.hid (T1.out.trans (hb.mono T1.out.size))
  clear hb
  go_wp2_with fail
  refine (HP.out _ (HT.out.below T2.out) (HE.out.below T2.out)).mono ?_
  rintro e w3 ⟨rfl, hb⟩
  have T3 := Lib.hid (T2.out.trans (hb.mono T2.out.size))
  clear hb
  go_wp2_with fail
  refine (M2.out _ (RA.out.below T3.out)).mono ?_
  rintro e w4 ⟨⟨s, rfl, hs⟩, hb⟩
  have T4 := Lib.hid (T3.out.trans (hb.mono T3.out.size))
  clear hb
  have HSA := Lib.hid (fun W => impl_SplitAny_c s [32] W (by omega) (by simp))
  obtain ⟨q, hq⟩ := split_ne s [32]
  have HJ := Lib.hid (fun b d W h hc => impl_Join_c b d (M.SplitAny s [32]) [32] W h hc (by have := M.SplitAny_len s [32]; omega) (by have := split_lens s 32; omega) (by simp))
  rw [join_split 32 s.length s (Nat.le_refl _)] at HJ
  have HIN := Lib.hid (fun W => impl_IsName_c [120, 49] W (by simp))
  rw [show M.IsName [120, 49] = true from by decide] at HIN
  have HSL := Lib.hid (fun W hm => impl_SplitLines_c m [97, 10, 98, 10] W (by simp) hm)
  rw [show M.SplitLines [97, 10, 98, 10] = [[97], [98]] from by decide] at HSL
  rw [hq] at HSA HJ
  have HRW := Lib.hid (show ∀ (W : World) A c, W.ownsRow w4.heap.size 9 1 (.slice A (q + 1) c) (q + 1) (strs (M.SplitAny s [32])) → Rd W 1 A (q + 1) (strs (M.SplitAny s [32])) from fun W A c h => Rd.of_own h)
  generalize M.SplitAny s [32] = zs at *
  go_wp2_with fail
  refine (HSA.out _).mono ?_
  rintro e w5 ⟨A5, c5, rfl, hown, hb⟩
  obtain ⟨⟨g, rfl⟩, hcd⟩ := own_some hown (by omega)
  have HJ5 := Lib.hid (HJ.out g c5 w5 (HRW.out _ _ _ hown) hcd)
  have T5 := Lib.hid (T4.out.trans (hb.mono T4.out.size))
  clear hb hown hcd
  go_wp2_with fail
  refine HJ5.out.mono ?_
  rintro e w6 ⟨rfl, hb⟩
  have T6 := Lib.hid (T5.out.trans (hb.mono T5.out.size))
  clear hb
  go_wp2_with fail
  refine (HIN.out _).mono ?_
  rintro e w7 ⟨rfl, rfl⟩
  go_wp2_with fail
  refine (HSL.out _ (cellKeep T6.out HM.out)).mono ?_
  rintro e w8 ⟨A8, c8, rfl, hown, hb⟩
  have T8 := Lib.hid (T6.out.trans (hb.mono T6.out.size))
  clear hb hown
  go_wp2_with fail
  go_ret
  exact ⟨rfl, T8.out⟩

set_option maxRecDepth 100000 in
theorem lifted (os : Os) (started : os.Started) (H : Type) (enc : TypeId × Value → H) :
    ReturnsInHanded {} Tryd.checked os 5 .any (fun w args => (Rows.fnWordsSpec.pre enc Tryd.prog Tryd.f5 Rows.fnWordsRow.domain false w args ∧ laidMetH Tryd.prog Rows.fnWordsRow.laid w) ∧ sizedMet enc Tryd.prog Tryd.f5 (OpenSpec.ofChange Rows.fnWordsSpec) false w args) (Rows.fnWordsSpec.post enc Tryd.prog Tryd.f5 false true false false) := by
  refine returnsInHanded_laid (C := Tryd.checked) (X := fun w _ => laidMetH Tryd.prog Rows.fnWordsRow.laid w) (fun _ _ _ hh h => h.of_heap hh) Tryd.own started (by kernel_rfl) Tryd.func5
    (ChangeSpec.witness_shaped (enc := enc) (C := Tryd.checked) (os := os) (X := fun w _ => laidMetH Tryd.prog Rows.fnWordsRow.laid w) false (World.laidAll Tryd.prog os Rows.fnWordsRow.laid) #[.slice none 0 0] 8 (World.laidAll_os _ _ _)
      (World.shaped_of_ZipB (by kernel_rfl) (by kernel_rfl)) (by kernel_rfl) (by kernel_rfl) (by kernel_rfl)
      (by rw [MakeChecks.laidMetH_plain _ _ _ (by kernel_rfl)]; exact laidMet_laidAll _ (by kernel_rfl) (by kernel_rfl))) ?_
  intro W base args ds gs before hval0 hW hL hsh
  rw [MakeChecks.laidMetH_plain _ _ _ (by kernel_rfl)] at hL
  have hval : ∀ (j : Nat) t v, Tryd.f5.params[j]? = some t → args[j]? = some v → Value.okWide Tryd.prog W .any base t v := hval0
  have hW' := hW
  have hlt : ∀ x ∈ before, x.block < W.heap.size := fun x hx => hW.lt x hx
  obtain ⟨p, q, hA0, hV, rfl, hfz, hnd⟩ := hW
  have hA : DataW.TrodAll enc Tryd.prog W 0 (fun _ => true) true Tryd.f5.params.toList args.toList ds p := hA0
  rw [Tryd.params5] at hA hval
  obtain ⟨v0, d0, rfl, rfl, h0⟩ := trodAll_one hA
  clear hA0 hval0 hfz hnd
  obtain ⟨A0, c0, l0, rfl, hr0⟩ := openBytes (hval 0 27 v0 rfl rfl) h0
  obtain ⟨m, hm⟩ := maxLen_of W hsh
  have hten := tab10_of_laid hL (by simp [Rows.fnWordsRow])
  have herr := errs_of_laid hL (by simp [Rows.fnWordsRow]) (by simp [Rows.fnWordsRow])
  refine (walk m A0 c0 l0 W hr0 hm hten herr).mono fun e W' ⟨he, hg⟩ => ?_
  subst he
  exact ⟨_, rfl, lawPost Tryd.laidOut (by kernel_rfl) (by kernel_rfl) Tryd.boolType rfl rfl hW' hg⟩

theorem row_holds : Rows.FnWordsSaid :=
  OpenClaim.holds_of_wide 5 Tryd.f5 rfl rfl rfl rfl rfl rfl rfl ⟨rfl, rfl, rfl, rfl, rfl⟩ rfl rfl rfl rfl rfl (by kernel_rfl) Tryd.func5 (by kernel_rfl)
    (of_decide_eq_true (by kernel_rfl)) (by unfold Func.isWrapper; first | (rw [if_pos (by decide +kernel)]; kernel_rfl) | (rw [if_neg (by decide +kernel)]; exact ⟨rfl, rfl⟩))
    (fun os started H enc _ => lifted os started H enc)

theorem proved : Rows.FnWordsCardSaid :=
  Claim7.holds_tied_plain_at (c := Rows.fnWordsRow) .later [] _ true _ true row_holds (fun _ h => by cases h) (by kernel_rfl) (fun _ h => by cases h) fnWords_row_tie rfl ⟨rfl, rfl⟩ (by kernel_rfl) rfl
    (fun f fn hf hfn => by
      obtain rfl : f = 5 := Option.some.inj ((show Tryd.prog.funcNamed "loop.example/g03201/laws.FnWords" = some 5 by kernel_rfl).symm.trans hf) |>.symm
      obtain rfl : fn = Tryd.f5 := (Option.some.inj (Tryd.func5.symm.trans hfn)).symm
      exact ⟨by kernel_rfl, fun j t ht => by
        rw [Tryd.params5] at ht
        have hm : t ∈ [27] := by simpa using Array.mem_of_getElem? ht
        have hall : ([27].all fun u => !Tryd.prog.wantsStandIn u) = true := by kernel_rfl
        exact (show Tryd.prog.wantsStandIn t = false by simpa using List.all_eq_true.1 hall t hm)⟩)
    (by kernel_rfl)
#print axioms proved
end Go.Proofs.YtkdccehihpgcdaaDoor.lawWords
