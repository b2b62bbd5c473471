/-
  The law FnExactParseSystem returns true for every input, and leaves its arguments as they were.
  Conditions: the listed variables read as the program's text lays them.
-/
import Derived.Test.YtkdccehihpgcdaaDoorCard
import Derived.Test.YtkdccehihpgcdaaDoorPSys
import Derived.Test.YtkdccehihpgcdaaDoorMarkRec
import Derived.Test.YtkdccehihpgcdaaDoorMaxLen
namespace Go.Proofs.YtkdccehihpgcdaaDoor.lawExactParseSystem
open Go.ChangeShapes Go.WideShapes Go.ChangeAt Go.RowKit
set_option linter.unusedVariables false

set_option maxRecDepth 100000 in
set_option maxHeartbeats 4000000 in
theorem walk (m : Int) (l0 : List UInt8) (w : World) (hl0 : l0.length ≤ 9223372036854775807) (hm : w.cell? ⟨2, 0, none⟩ = some (.int .i64 m)) (ht : Tab10 w) (he : Errs w) :
    Calls Tryd.prog 8 #[.string ⟨l0.toArray⟩] w fun e w' => e = .returned (.bool true) ∧ Below w.heap.size w w' := by
  have HM := Lib.hid hm
  have HT := Lib.hid ht
  have HE := Lib.hid he
  clear hm ht he
  by_cases hs_l0 : 1048576 < l0.length
  case pos =>
    go_enter Tryd.func8, Tryd.ntmps8
    go_wp2
    go_ret
    exact ⟨rfl, Below.refl _ _⟩
  case neg =>
  have h3 := Lib.hid (fun W => spec_ParseSystem_c l0 W (by omega))
  have h4 := Lib.hid (fun W hm ht he => impl_ParseSystem_c m l0 W (by omega) hm ht he)
  have hzl : (M.psQ l0).length ≤ 1048576 := by
    unfold M.psQ
    split
    · rename_i h
      have := (fs_parts (ps_rules h)).2.1
      omega
    · simp
  generalize M.psK l0 = mk at *
  generalize M.psQ l0 = mq at *
  generalize M.psB l0 = mb at *
  have hk1 : ¬ ((1 : Int) + (mq.length : Int) * 2 < 0) := by omega
  cases mb
  all_goals
    go_enter Tryd.func8, Tryd.ntmps8
    go_wp2_with fail
    refine (h3.out _).mono ?_
    rintro e w1 ⟨AW, cW, rfl, hown, hb⟩
    have B := below_then (a := w) (by repeat (first | exact Below.refl _ _ | refine Below.setCell ?_ (by simp) _ | refine Below.alloc ?_ (by simp <;> omega) _ | refine below_drewN ?_ _ | refine Below.drew ?_)) hb
    have S1 := Lib.hid (show w.heap.size + 0 ≤ w1.heap.size by have h := hb.size; (try simp at h); omega)
    have OW := Lib.hid ((hown).mono (base' := w.heap.size) (by simp <;> omega))
    have UW := Lib.hid OW.out.blkIn
    clear hown
    have T := Lib.hid B
    clear hb B
    go_wp2_with fail
    refine (h4.out _ (cellKeep (below_then T.out (by repeat (first | exact Below.refl _ _ | refine Below.setCell ?_ (by simp) _ | refine Below.alloc ?_ (by simp <;> omega) _ | refine below_drewN ?_ _ | refine Below.drew ?_))) HM.out) (HT.out.below (below_then T.out (by repeat (first | exact Below.refl _ _ | refine Below.setCell ?_ (by simp) _ | refine Below.alloc ?_ (by simp <;> omega) _ | refine below_drewN ?_ _ | refine Below.drew ?_)))) (HE.out.below (below_then T.out (by repeat (first | exact Below.refl _ _ | refine Below.setCell ?_ (by simp) _ | refine Below.alloc ?_ (by simp <;> omega) _ | refine below_drewN ?_ _ | refine Below.drew ?_))))).mono ?_
    rintro e w2 ⟨AG, cG, rfl, hown, hb⟩
    have B := below_then (a := w1) (by repeat (first | exact Below.refl _ _ | refine Below.setCell ?_ (by simp) _ | refine Below.alloc ?_ (by simp <;> omega) _ | refine below_drewN ?_ _ | refine Below.drew ?_)) hb
    have S2 := Lib.hid (show w1.heap.size + 1 ≤ w2.heap.size by have h := hb.size; (try simp at h); omega)
    replace OW := Lib.hid (OW.out.below B)
    have u0 : w2.cell? ⟨w1.heap.size, 0, none⟩ = some (.int .i64 mk) := cellKeep hb (by simp [go_sem])
    have u1 : w2.cell? ⟨w1.heap.size, 1, none⟩ = some (.slice AW mq.length cW) := cellKeep hb (by simp [go_sem])
    have OG := Lib.hid ((hown).mono (base' := w1.heap.size + 1) (by simp <;> omega))
    have UG := Lib.hid OG.out.blkIn
    clear hown
    replace T := Lib.hid (T.out.trans (B.mono T.out.size))
    clear hb B
    have u0_1 := allocKeep1 u0
    have u1_1 := allocKeep1 u1
    go_wp2_with fail
    clear u0_1 u1_1
    refine (eqSystem_t mk _ _ _ _ mq _ (OG.out.rd.below (by repeat (first | exact Below.refl _ _ | refine Below.setCell ?_ (by simp) _ | refine Below.alloc ?_ (by simp <;> omega) _ | refine below_drewN ?_ _ | refine Below.drew ?_))) (OW.out.rd.below (by repeat (first | exact Below.refl _ _ | refine Below.setCell ?_ (by simp) _ | refine Below.alloc ?_ (by simp <;> omega) _ | refine below_drewN ?_ _ | refine Below.drew ?_))) (by omega)).mono ?_
    rintro e w3 ⟨rfl, hb⟩
    have B := below_then (a := w2) (by repeat (first | exact Below.refl _ _ | refine Below.setCell ?_ (by simp) _ | refine Below.alloc ?_ (by simp <;> omega) _ | refine below_drewN ?_ _ | refine Below.drew ?_)) hb
    have S3 := Lib.hid (show w2.heap.size + 1 ≤ w3.heap.size by have h := hb.size; (try simp at h); omega)
    replace u0 : w3.cell? ⟨w1.heap.size, 0, none⟩ = some (.int .i64 mk) := cellKeep B u0
    replace u1 : w3.cell? ⟨w1.heap.size, 1, none⟩ = some (.slice AW mq.length cW) := cellKeep B u1
    replace OW := Lib.hid (OW.out.below B)
    replace OG := Lib.hid (OG.out.below B)
    have g0 : w3.cell? ⟨w2.heap.size, 0, none⟩ = some (.int .i64 mk) := cellKeep hb (by simp [go_sem])
    have g1 : w3.cell? ⟨w2.heap.size, 1, none⟩ = some (.slice AG mq.length cG) := cellKeep hb (by simp [go_sem])
    replace T := Lib.hid (T.out.trans (B.mono T.out.size))
    clear hb B
    go_wp2_with fail
    refine (markSystem_c mk AG mq.length cG _ _ 1 _ OG.out (by omega) (by omega) (by omega)).mono ?_
    rintro e w4 ⟨rfl, ho, hg⟩
    have S4 := Lib.hid (show w3.heap.size + 0 ≤ w4.heap.size by have h := hg.size; (try simp at h); omega)
    replace u0 : w4.cell? ⟨w1.heap.size, 0, none⟩ = some (.int .i64 mk) := cellGrown hg u0 (blk_off UG.out (by have h1 := S1.out; have h2 := S2.out; have h3 := S3.out; omega))
    replace u1 : w4.cell? ⟨w1.heap.size, 1, none⟩ = some (.slice AW mq.length cW) := cellGrown hg u1 (blk_off UG.out (by have h1 := S1.out; have h2 := S2.out; have h3 := S3.out; omega))
    replace g0 : w4.cell? ⟨w2.heap.size, 0, none⟩ = some (.int .i64 mk) := cellGrown hg g0 (blk_off UG.out (by have h1 := S1.out; have h2 := S2.out; have h3 := S3.out; omega))
    replace g1 : w4.cell? ⟨w2.heap.size, 1, none⟩ = some (.slice AG mq.length cG) := cellGrown hg g1 (blk_off UG.out (by have h1 := S1.out; have h2 := S2.out; have h3 := S3.out; omega))
    replace OW := Lib.hid (OW.out.grown hg (blk_ne UW.out UG.out (by have h1 := S1.out; have h2 := S2.out; have h3 := S3.out; omega)))
    replace OG := Lib.hid ho
    replace T := Lib.hid (below_grown T.out T.out.size hg UG.out (by have h1 := S1.out; have h2 := S2.out; have h3 := S3.out; omega))
    clear ho hg
    go_wp2_with fail
    refine (heldSystem_c mk AG mq.length cG 1 _ OG.out.rd (by omega) (by omega) (by omega)).mono ?_
    rintro e w5 ⟨rfl, hb⟩
    have B := below_then (a := w4) (by repeat (first | exact Below.refl _ _ | refine Below.setCell ?_ (by simp) _ | refine Below.alloc ?_ (by simp <;> omega) _ | refine below_drewN ?_ _ | refine Below.drew ?_)) hb
    have S5 := Lib.hid (show w4.heap.size + 0 ≤ w5.heap.size by have h := hb.size; (try simp at h); omega)
    replace u0 : w5.cell? ⟨w1.heap.size, 0, none⟩ = some (.int .i64 mk) := cellKeep B u0
    replace u1 : w5.cell? ⟨w1.heap.size, 1, none⟩ = some (.slice AW mq.length cW) := cellKeep B u1
    replace g0 : w5.cell? ⟨w2.heap.size, 0, none⟩ = some (.int .i64 mk) := cellKeep B g0
    replace g1 : w5.cell? ⟨w2.heap.size, 1, none⟩ = some (.slice AG mq.length cG) := cellKeep B g1
    replace OW := Lib.hid (OW.out.below B)
    replace OG := Lib.hid (OG.out.below B)
    replace T := Lib.hid (T.out.trans (B.mono T.out.size))
    clear hb B
    go_wp2_with fail
    refine (h4.out _ (cellKeep (below_then T.out (by repeat (first | exact Below.refl _ _ | refine Below.setCell ?_ (by simp) _ | refine Below.alloc ?_ (by simp <;> omega) _ | refine below_drewN ?_ _ | refine Below.drew ?_))) HM.out) (HT.out.below (below_then T.out (by repeat (first | exact Below.refl _ _ | refine Below.setCell ?_ (by simp) _ | refine Below.alloc ?_ (by simp <;> omega) _ | refine below_drewN ?_ _ | refine Below.drew ?_)))) (HE.out.below (below_then T.out (by repeat (first | exact Below.refl _ _ | refine Below.setCell ?_ (by simp) _ | refine Below.alloc ?_ (by simp <;> omega) _ | refine below_drewN ?_ _ | refine Below.drew ?_))))).mono ?_
    rintro e w6 ⟨AH, cH, rfl, hown, hb⟩
    have B := below_then (a := w5) (by repeat (first | exact Below.refl _ _ | refine Below.setCell ?_ (by simp) _ | refine Below.alloc ?_ (by simp <;> omega) _ | refine below_drewN ?_ _ | refine Below.drew ?_)) hb
    have S6 := Lib.hid (show w5.heap.size + 0 ≤ w6.heap.size by have h := hb.size; (try simp at h); omega)
    replace u0 : w6.cell? ⟨w1.heap.size, 0, none⟩ = some (.int .i64 mk) := cellKeep B u0
    replace u1 : w6.cell? ⟨w1.heap.size, 1, none⟩ = some (.slice AW mq.length cW) := cellKeep B u1
    replace g0 : w6.cell? ⟨w2.heap.size, 0, none⟩ = some (.int .i64 mk) := cellKeep B g0
    replace g1 : w6.cell? ⟨w2.heap.size, 1, none⟩ = some (.slice AG mq.length cG) := cellKeep B g1
    replace OW := Lib.hid (OW.out.below B)
    replace OG := Lib.hid (OG.out.below B)
    have OH := Lib.hid ((hown).mono (base' := w5.heap.size) (by simp <;> omega))
    have UH := Lib.hid OH.out.blkIn
    clear hown
    replace T := Lib.hid (T.out.trans (B.mono T.out.size))
    clear hb B
    have u0_1 := allocKeep1 u0
    have u1_1 := allocKeep1 u1
    have g0_1 := allocKeep1 g0
    have g1_1 := allocKeep1 g1
    go_wp2_with fail
    clear u0_1 u1_1 g0_1 g1_1
    refine (eqSystem_t mk _ _ _ _ mq _ (OH.out.rd.below (by repeat (first | exact Below.refl _ _ | refine Below.setCell ?_ (by simp) _ | refine Below.alloc ?_ (by simp <;> omega) _ | refine below_drewN ?_ _ | refine Below.drew ?_))) (OW.out.rd.below (by repeat (first | exact Below.refl _ _ | refine Below.setCell ?_ (by simp) _ | refine Below.alloc ?_ (by simp <;> omega) _ | refine below_drewN ?_ _ | refine Below.drew ?_))) (by omega)).mono ?_
    rintro e w7 ⟨rfl, hb⟩
    have B := below_then (a := w6) (by repeat (first | exact Below.refl _ _ | refine Below.setCell ?_ (by simp) _ | refine Below.alloc ?_ (by simp <;> omega) _ | refine below_drewN ?_ _ | refine Below.drew ?_)) hb
    have S7 := Lib.hid (show w6.heap.size + 1 ≤ w7.heap.size by have h := hb.size; (try simp at h); omega)
    replace u0 : w7.cell? ⟨w1.heap.size, 0, none⟩ = some (.int .i64 mk) := cellKeep B u0
    replace u1 : w7.cell? ⟨w1.heap.size, 1, none⟩ = some (.slice AW mq.length cW) := cellKeep B u1
    replace g0 : w7.cell? ⟨w2.heap.size, 0, none⟩ = some (.int .i64 mk) := cellKeep B g0
    replace g1 : w7.cell? ⟨w2.heap.size, 1, none⟩ = some (.slice AG mq.length cG) := cellKeep B g1
    replace OW := Lib.hid (OW.out.below B)
    replace OG := Lib.hid (OG.out.below B)
    replace OH := Lib.hid (OH.out.below B)
    have h0 : w7.cell? ⟨w6.heap.size, 0, none⟩ = some (.int .i64 mk) := cellKeep hb (by simp [go_sem])
    have h1 : w7.cell? ⟨w6.heap.size, 1, none⟩ = some (.slice AH mq.length cH) := cellKeep hb (by simp [go_sem])
    replace T := Lib.hid (T.out.trans (B.mono T.out.size))
    clear hb B
    go_wp2_with fail
    refine (heldSystem_c mk AG mq.length cG 1 _ OG.out.rd (by omega) (by omega) (by omega)).mono ?_
    rintro e w8 ⟨rfl, hb⟩
    have B := below_then (a := w7) (by repeat (first | exact Below.refl _ _ | refine Below.setCell ?_ (by simp) _ | refine Below.alloc ?_ (by simp <;> omega) _ | refine below_drewN ?_ _ | refine Below.drew ?_)) hb
    have S8 := Lib.hid (show w7.heap.size + 0 ≤ w8.heap.size by have h := hb.size; (try simp at h); omega)
    replace u0 : w8.cell? ⟨w1.heap.size, 0, none⟩ = some (.int .i64 mk) := cellKeep B u0
    replace u1 : w8.cell? ⟨w1.heap.size, 1, none⟩ = some (.slice AW mq.length cW) := cellKeep B u1
    replace g0 : w8.cell? ⟨w2.heap.size, 0, none⟩ = some (.int .i64 mk) := cellKeep B g0
    replace g1 : w8.cell? ⟨w2.heap.size, 1, none⟩ = some (.slice AG mq.length cG) := cellKeep B g1
    replace h0 : w8.cell? ⟨w6.heap.size, 0, none⟩ = some (.int .i64 mk) := cellKeep B h0
    replace h1 : w8.cell? ⟨w6.heap.size, 1, none⟩ = some (.slice AH mq.length cH) := cellKeep B h1
    replace OW := Lib.hid (OW.out.below B)
    replace OG := Lib.hid (OG.out.below B)
    replace OH := Lib.hid (OH.out.below B)
    replace T := Lib.hid (T.out.trans (B.mono T.out.size))
    clear hb B
    go_wp2_with fail
    go_ret
    exact ⟨rfl, T.out.trans ((show Below w8.heap.size w8 _ from (by repeat (first | exact Below.refl _ _ | refine Below.setCell ?_ (by simp) _ | refine Below.alloc ?_ (by simp <;> omega) _ | refine below_drewN ?_ _ | refine Below.drew ?_))).mono T.out.size)⟩

set_option maxRecDepth 100000 in
theorem lifted (os : Os) (started : os.Started) (H : Type) (enc : TypeId × Value → H) :
    ReturnsInHanded {} Tryd.checked os 8 .any (fun w args => (Rows.fnExactParseSystemSpec.pre enc Tryd.prog Tryd.f8 Rows.fnExactParseSystemRow.domain false w args ∧ laidMetH Tryd.prog Rows.fnExactParseSystemRow.laid w) ∧ sizedMet enc Tryd.prog Tryd.f8 (OpenSpec.ofChange Rows.fnExactParseSystemSpec) false w args) (Rows.fnExactParseSystemSpec.post enc Tryd.prog Tryd.f8 false true false false) := by
  refine returnsInHanded_laid (C := Tryd.checked) (X := fun w _ => laidMetH Tryd.prog Rows.fnExactParseSystemRow.laid w) (fun _ _ _ hh h => h.of_heap hh) Tryd.own started (by kernel_rfl) Tryd.func8
    (ChangeSpec.witness_shaped (enc := enc) (C := Tryd.checked) (os := os) (X := fun w _ => laidMetH Tryd.prog Rows.fnExactParseSystemRow.laid w) false (World.laidAll Tryd.prog os Rows.fnExactParseSystemRow.laid) #[.string ByteArray.empty] 8 (World.laidAll_os _ _ _)
      (World.shaped_of_ZipB (by kernel_rfl) (by kernel_rfl)) (by kernel_rfl) (by kernel_rfl) (by kernel_rfl)
      (by rw [MakeChecks.laidMetH_plain _ _ _ (by kernel_rfl)]; exact laidMet_laidAll _ (by kernel_rfl) (by kernel_rfl))) ?_
  intro W base args ds gs before hval0 hW hL hsh
  rw [MakeChecks.laidMetH_plain _ _ _ (by kernel_rfl)] at hL
  have hval : ∀ (j : Nat) t v, Tryd.f8.params[j]? = some t → args[j]? = some v → Value.okWide Tryd.prog W .any base t v := hval0
  have hW' := hW
  have hlt : ∀ x ∈ before, x.block < W.heap.size := fun x hx => hW.lt x hx
  obtain ⟨p, q, hA0, hV, rfl, hfz, hnd⟩ := hW
  have hA : DataW.TrodAll enc Tryd.prog W 0 (fun _ => true) true Tryd.f8.params.toList args.toList ds p := hA0
  rw [Tryd.params8] at hA hval
  obtain ⟨v0, d0, rfl, rfl, h0⟩ := trodAll_one hA
  clear hA0 hval0 hfz hnd
  obtain ⟨s0, rfl, rfl, rfl, hs0⟩ := Go.ChangeMaps.open_string Tryd.underlying9 (hval 0 9 v0 rfl rfl) h0
  obtain ⟨l0, rfl⟩ := bytesList s0
  have hl0 := bytesLen hs0
  obtain ⟨m, hm⟩ := maxLen_of W hsh
  have hten := tab10_of_laid hL (by simp [Rows.fnExactParseSystemRow])
  have herr := errs_of_laid hL (by simp [Rows.fnExactParseSystemRow]) (by simp [Rows.fnExactParseSystemRow])
  refine (walk m l0 W hl0 hm hten herr).mono fun e W' ⟨he, hg⟩ => ?_
  subst he
  exact ⟨_, rfl, lawPost Tryd.laidOut (by kernel_rfl) (by kernel_rfl) Tryd.boolType rfl rfl hW' hg⟩

theorem row_holds : Rows.FnExactParseSystemSaid :=
  OpenClaim.holds_of_wide 8 Tryd.f8 rfl rfl rfl rfl rfl rfl rfl ⟨rfl, rfl, rfl, rfl, rfl⟩ rfl rfl rfl rfl rfl (by kernel_rfl) Tryd.func8 (by kernel_rfl)
    (of_decide_eq_true (by kernel_rfl)) (by unfold Func.isWrapper; first | (rw [if_pos (by decide +kernel)]; kernel_rfl) | (rw [if_neg (by decide +kernel)]; exact ⟨rfl, rfl⟩))
    (fun os started H enc _ => lifted os started H enc)

theorem proved : Rows.FnExactParseSystemCardSaid :=
  Claim7.holds_tied_plain_at (c := Rows.fnExactParseSystemRow) .later [] _ true _ true row_holds (fun _ h => by cases h) (by kernel_rfl) (fun _ h => by cases h) fnExactParseSystem_row_tie rfl ⟨rfl, rfl⟩ (by kernel_rfl) rfl
    (fun f fn hf hfn => by
      obtain rfl : f = 8 := Option.some.inj ((show Tryd.prog.funcNamed "loop.example/g03201/laws.FnExactParseSystem" = some 8 by kernel_rfl).symm.trans hf) |>.symm
      obtain rfl : fn = Tryd.f8 := (Option.some.inj (Tryd.func8.symm.trans hfn)).symm
      exact ⟨by kernel_rfl, fun j t ht => by
        rw [Tryd.params8] at ht
        have hm : t ∈ [9] := by simpa using Array.mem_of_getElem? ht
        have hall : ([9].all fun u => !Tryd.prog.wantsStandIn u) = true := by kernel_rfl
        exact (show Tryd.prog.wantsStandIn t = false by simpa using List.all_eq_true.1 hall t hm)⟩)
    (by kernel_rfl)
#print axioms proved
end Go.Proofs.YtkdccehihpgcdaaDoor.lawExactParseSystem
