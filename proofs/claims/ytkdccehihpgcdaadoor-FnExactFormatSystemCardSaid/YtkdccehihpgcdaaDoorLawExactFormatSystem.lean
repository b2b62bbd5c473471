/-
  The law FnExactFormatSystem returns true for every input, and leaves its arguments as they were.
  Conditions: the listed variables read as the program's text lays them.
-/
import Derived.Test.YtkdccehihpgcdaaDoorCard
import Derived.Test.YtkdccehihpgcdaaDoorFmtSys
import Derived.Test.YtkdccehihpgcdaaDoorSys
namespace Go.Proofs.YtkdccehihpgcdaaDoor.lawExactFormatSystem
open Go.ChangeShapes Go.WideShapes Go.ChangeAt Go.RowKit
set_option linter.unusedVariables false

set_option maxRecDepth 100000 in
set_option maxHeartbeats 4000000 in
theorem walk (k : Int) (A : Option Addr) (c : Nat) (rs : List M.Rule) (w : World) (hr : (-9223372036854775808 ≤ k ∧ k ≤ 9223372036854775807) ∧ rs.length ≤ 9223372036854775807 ∧ Rd w 2 A rs.length (ruls rs) ∧ ∀ r ∈ rs, r.left.length ≤ 9223372036854775807 ∧ r.right.length ≤ 9223372036854775807) (ht : Tab10 w) :
    Calls Tryd.prog 7 #[.agg #[.int .i64 k, .slice A rs.length c]] w fun e w' => e = .returned (.bool true) ∧ Below w.heap.size w w' := by
  obtain ⟨hk, hl, hA, hs⟩ := hr
  have RA := Lib.hid hA
  have HT := Lib.hid ht
  clear ht
  have h1 := Lib.hid (fun W h => szSystem_c k A c rs 1048576 W h hl hs (by omega) (by omega))
  by_cases hz : M.szRules rs 1048576 < 0
  case pos =>
    rw [if_pos hz] at h1
    clear hs hA hz
    go_enter Tryd.func7, Tryd.ntmps7
    go_wp2_with fail
    refine (h1.out _ (RA.out.below (by repeat (first | exact Below.refl _ _ | refine Below.setCell ?_ (by simp) _ | refine Below.alloc ?_ (by simp <;> omega) _ | refine below_drewN ?_ _ | refine Below.drew ?_)))).mono ?_
    rintro e w1 ⟨rfl, hb⟩
    have B := below_then (a := w) (by repeat (first | exact Below.refl _ _ | refine Below.setCell ?_ (by simp) _ | refine Below.alloc ?_ (by simp <;> omega) _ | refine below_drewN ?_ _ | refine Below.drew ?_)) hb
    have q0 : w1.cell? ⟨w.heap.size, 0, none⟩ = some (.int .i64 k) := cellKeep hb (by simp [go_sem])
    have q1 : w1.cell? ⟨w.heap.size, 1, none⟩ = some (.slice A rs.length c) := cellKeep hb (by simp [go_sem])
    replace RA := Lib.hid (RA.out.below B)
    have T := Lib.hid B
    clear hb B
    go_wp2_with fail
    go_ret
    exact ⟨rfl, T.out.trans ((show Below w1.heap.size w1 _ from (by repeat (first | exact Below.refl _ _ | refine Below.setCell ?_ (by simp) _ | refine Below.alloc ?_ (by simp <;> omega) _ | refine below_drewN ?_ _ | refine Below.drew ?_))).mono T.out.size)⟩
  case neg =>
    rw [if_neg hz] at h1
    obtain ⟨hl2, hs2, _⟩ := M.szRules_ok hz
    have hl3 : rs.length ≤ 1048576 := by omega
    have hs3 : ∀ r ∈ rs, r.left.length ≤ 1048576 ∧ r.right.length ≤ 1048576 := fun r hr => by have := hs2 r hr; omega
    have h2 := Lib.hid (fun W h => toSystem_c k A c rs W h hl3)
    have h3 := Lib.hid (fun W A c h => spec_FormatSystem_c k A c rs W h hl3 hs3)
    have h4 := Lib.hid (fun W A c h ht => impl_FormatSystem_c k A c rs W h hl3 hs3 ht)
    generalize M.szRules rs 1048576 = z at *
    generalize M.FormatSystem k rs = x at *
    clear hs hA hs2 hs3
    go_enter Tryd.func7, Tryd.ntmps7
    go_wp2_with fail
    refine (h1.out _ (RA.out.below (by repeat (first | exact Below.refl _ _ | refine Below.setCell ?_ (by simp) _ | refine Below.alloc ?_ (by simp <;> omega) _ | refine below_drewN ?_ _ | refine Below.drew ?_)))).mono ?_
    rintro e w1 ⟨rfl, hb⟩
    have B := below_then (a := w) (by repeat (first | exact Below.refl _ _ | refine Below.setCell ?_ (by simp) _ | refine Below.alloc ?_ (by simp <;> omega) _ | refine below_drewN ?_ _ | refine Below.drew ?_)) hb
    have q0 : w1.cell? ⟨w.heap.size, 0, none⟩ = some (.int .i64 k) := cellKeep hb (by simp [go_sem])
    have q1 : w1.cell? ⟨w.heap.size, 1, none⟩ = some (.slice A rs.length c) := cellKeep hb (by simp [go_sem])
    replace RA := Lib.hid (RA.out.below B)
    have T := Lib.hid B
    clear hb B
    go_wp2_with fail
    refine (h2.out _ (RA.out.below (by repeat (first | exact Below.refl _ _ | refine Below.setCell ?_ (by simp) _ | refine Below.alloc ?_ (by simp <;> omega) _ | refine below_drewN ?_ _ | refine Below.drew ?_)))).mono ?_
    rintro e w2 ⟨AS, cS, rfl, hown, hb⟩
    have B := below_then (a := w1) (by repeat (first | exact Below.refl _ _ | refine Below.setCell ?_ (by simp) _ | refine Below.alloc ?_ (by simp <;> omega) _ | refine below_drewN ?_ _ | refine Below.drew ?_)) hb
    replace q0 : w2.cell? ⟨w.heap.size, 0, none⟩ = some (.int .i64 k) := cellKeep B q0
    replace q1 : w2.cell? ⟨w.heap.size, 1, none⟩ = some (.slice A rs.length c) := cellKeep B q1
    replace RA := Lib.hid (RA.out.below B)
    replace T := Lib.hid (T.out.trans (B.mono T.out.size))
    clear hb B
    have RS := Lib.hid hown.rd
    clear hown
    go_wp2_with fail
    refine (h3.out _ _ _ (RS.out)).mono ?_
    rintro e w3 ⟨rfl, hb⟩
    have B := below_then (a := w2) (by repeat (first | exact Below.refl _ _ | refine Below.setCell ?_ (by simp) _ | refine Below.alloc ?_ (by simp <;> omega) _ | refine below_drewN ?_ _ | refine Below.drew ?_)) hb
    replace q0 : w3.cell? ⟨w.heap.size, 0, none⟩ = some (.int .i64 k) := cellKeep B q0
    replace q1 : w3.cell? ⟨w.heap.size, 1, none⟩ = some (.slice A rs.length c) := cellKeep B q1
    replace RA := Lib.hid (RA.out.below B)
    replace RS := Lib.hid (RS.out.below B)
    replace T := Lib.hid (T.out.trans (B.mono T.out.size))
    clear hb B
    go_wp2_with fail
    refine (h2.out _ (RA.out.below (by repeat (first | exact Below.refl _ _ | refine Below.setCell ?_ (by simp) _ | refine Below.alloc ?_ (by simp <;> omega) _ | refine below_drewN ?_ _ | refine Below.drew ?_)))).mono ?_
    rintro e w4 ⟨AX, cX, rfl, hown, hb⟩
    have B := below_then (a := w3) (by repeat (first | exact Below.refl _ _ | refine Below.setCell ?_ (by simp) _ | refine Below.alloc ?_ (by simp <;> omega) _ | refine below_drewN ?_ _ | refine Below.drew ?_)) hb
    replace q0 : w4.cell? ⟨w.heap.size, 0, none⟩ = some (.int .i64 k) := cellKeep B q0
    replace q1 : w4.cell? ⟨w.heap.size, 1, none⟩ = some (.slice A rs.length c) := cellKeep B q1
    replace RA := Lib.hid (RA.out.below B)
    replace T := Lib.hid (T.out.trans (B.mono T.out.size))
    clear hb B
    have RX := Lib.hid hown.rd
    clear hown
    go_wp2_with fail
    refine (h4.out _ _ _ (RX.out.below (by repeat (first | exact Below.refl _ _ | refine Below.setCell ?_ (by simp) _ | refine Below.alloc ?_ (by simp <;> omega) _ | refine below_drewN ?_ _ | refine Below.drew ?_))) (HT.out.below (below_then T.out (by repeat (first | exact Below.refl _ _ | refine Below.setCell ?_ (by simp) _ | refine Below.alloc ?_ (by simp <;> omega) _ | refine below_drewN ?_ _ | refine Below.drew ?_))))).mono ?_
    rintro e w5 ⟨rfl, hb⟩
    have B := below_then (a := w4) (by repeat (first | exact Below.refl _ _ | refine Below.setCell ?_ (by simp) _ | refine Below.alloc ?_ (by simp <;> omega) _ | refine below_drewN ?_ _ | refine Below.drew ?_)) hb
    replace q0 : w5.cell? ⟨w.heap.size, 0, none⟩ = some (.int .i64 k) := cellKeep B q0
    replace q1 : w5.cell? ⟨w.heap.size, 1, none⟩ = some (.slice A rs.length c) := cellKeep B q1
    have x0 : w5.cell? ⟨w4.heap.size, 0, none⟩ = some (.int .i64 k) := cellKeep hb (by simp [go_sem])
    have x1 : w5.cell? ⟨w4.heap.size, 1, none⟩ = some (.slice AX rs.length cX) := cellKeep hb (by simp [go_sem])
    replace RA := Lib.hid (RA.out.below B)
    replace RX := Lib.hid (RX.out.below B)
    replace T := Lib.hid (T.out.trans (B.mono T.out.size))
    clear hb B
    go_wp2_with fail
    go_region_held3 (fun w' => w'.cell? ⟨w.heap.size, 0, none⟩ = some (.int .i64 k) ∧ w'.cell? ⟨w.heap.size, 1, none⟩ = some (.slice A rs.length c) ∧ w'.cell? ⟨w4.heap.size, 0, none⟩ = some (.int .i64 k) ∧ w'.cell? ⟨w4.heap.size, 1, none⟩ = some (.slice AX rs.length cX) ∧ Below w5.heap.size w5 w') (first | exact ⟨q0, q1, x0, x1, (Below.refl _ _).drew⟩ | assumption | exact held4 (by assumption) hba | exact held4 (by assumption) hbb) (first | (go_simp; go_at_call 25; refine (h2.out _ (RA.out.below (held4_below (by assumption)))).mono ?_; rintro e wa ⟨AY, cY, rfl, hown, hba⟩) | (go_simp; go_at_call 27; refine (eqSystem_t _ _ _ _ _ _ _ (RX.out.below (held4_below (by assumption))) hown.rd (by omega)).mono ?_; rintro e wb ⟨rfl, hbb⟩))
    all_goals
      have hh := held4_below (by assumption)
      go_wp2_with fail
      go_ret
      exact ⟨rfl, T.out.trans (hh.mono T.out.size)⟩

set_option maxRecDepth 100000 in
theorem lifted (os : Os) (started : os.Started) (H : Type) (enc : TypeId × Value → H) :
    ReturnsInHanded {} Tryd.checked os 7 .any (fun w args => (Rows.fnExactFormatSystemSpec.pre enc Tryd.prog Tryd.f7 Rows.fnExactFormatSystemRow.domain false w args ∧ laidMetH Tryd.prog Rows.fnExactFormatSystemRow.laid w) ∧ sizedMet enc Tryd.prog Tryd.f7 (OpenSpec.ofChange Rows.fnExactFormatSystemSpec) false w args) (Rows.fnExactFormatSystemSpec.post enc Tryd.prog Tryd.f7 false true false false) := by
  refine returnsInHanded_laid (C := Tryd.checked) (X := fun w _ => laidMetH Tryd.prog Rows.fnExactFormatSystemRow.laid w) (fun _ _ _ hh h => h.of_heap hh) Tryd.own started (by kernel_rfl) Tryd.func7
    (ChangeSpec.witness_shaped (enc := enc) (C := Tryd.checked) (os := os) (X := fun w _ => laidMetH Tryd.prog Rows.fnExactFormatSystemRow.laid w) false (World.laidAll Tryd.prog os Rows.fnExactFormatSystemRow.laid) #[.agg #[.int .i64 0, .slice none 0 0]] 8 (World.laidAll_os _ _ _)
      (World.shaped_of_ZipB (by kernel_rfl) (by kernel_rfl)) (by kernel_rfl) (by kernel_rfl) (by kernel_rfl)
      (by rw [MakeChecks.laidMetH_plain _ _ _ (by kernel_rfl)]; exact laidMet_laidAll _ (by kernel_rfl) (by kernel_rfl))) ?_
  intro W base args ds gs before hval0 hW hL hsh
  rw [MakeChecks.laidMetH_plain _ _ _ (by kernel_rfl)] at hL
  have hval : ∀ (j : Nat) t v, Tryd.f7.params[j]? = some t → args[j]? = some v → Value.okWide Tryd.prog W .any base t v := hval0
  have hW' := hW
  have hlt : ∀ x ∈ before, x.block < W.heap.size := fun x hx => hW.lt x hx
  obtain ⟨p, q, hA0, hV, rfl, hfz, hnd⟩ := hW
  have hA : DataW.TrodAll enc Tryd.prog W 0 (fun _ => true) true Tryd.f7.params.toList args.toList ds p := hA0
  rw [Tryd.params7] at hA hval
  obtain ⟨v0, d0, rfl, rfl, h0⟩ := trodAll_one hA
  clear hA0 hval0 hfz hnd
  obtain ⟨k0, A0, c0, rs0, rfl, hr0⟩ := openSystem (hval 0 39 v0 rfl rfl) h0
  have hten := tab10_of_laid hL (by simp [Rows.fnExactFormatSystemRow])
  refine (walk k0 A0 c0 rs0 W hr0 hten).mono fun e W' ⟨he, hg⟩ => ?_
  subst he
  exact ⟨_, rfl, lawPost Tryd.laidOut (by kernel_rfl) (by kernel_rfl) Tryd.boolType rfl rfl hW' hg⟩

theorem row_holds : Rows.FnExactFormatSystemSaid :=
  OpenClaim.holds_of_wide 7 Tryd.f7 rfl rfl rfl rfl rfl rfl rfl ⟨rfl, rfl, rfl, rfl, rfl⟩ rfl rfl rfl rfl rfl (by kernel_rfl) Tryd.func7 (by kernel_rfl)
    (of_decide_eq_true (by kernel_rfl)) (by unfold Func.isWrapper; first | (rw [if_pos (by decide +kernel)]; kernel_rfl) | (rw [if_neg (by decide +kernel)]; exact ⟨rfl, rfl⟩))
    (fun os started H enc _ => lifted os started H enc)

theorem proved : Rows.FnExactFormatSystemCardSaid :=
  Claim7.holds_tied_plain_at (c := Rows.fnExactFormatSystemRow) .later [] _ true _ true row_holds (fun _ h => by cases h) (by kernel_rfl) (fun _ h => by cases h) fnExactFormatSystem_row_tie rfl ⟨rfl, rfl⟩ (by kernel_rfl) rfl
    (fun f fn hf hfn => by
      obtain rfl : f = 7 := Option.some.inj ((show Tryd.prog.funcNamed "loop.example/g03201/laws.FnExactFormatSystem" = some 7 by kernel_rfl).symm.trans hf) |>.symm
      obtain rfl : fn = Tryd.f7 := (Option.some.inj (Tryd.func7.symm.trans hfn)).symm
      exact ⟨by kernel_rfl, fun j t ht => by
        rw [Tryd.params7] at ht
        have hm : t ∈ [39] := by simpa using Array.mem_of_getElem? ht
        have hall : ([39].all fun u => !Tryd.prog.wantsStandIn u) = true := by kernel_rfl
        exact (show Tryd.prog.wantsStandIn t = false by simpa using List.all_eq_true.1 hall t hm)⟩)
    (by kernel_rfl)
#print axioms proved
end Go.Proofs.YtkdccehihpgcdaaDoor.lawExactFormatSystem
