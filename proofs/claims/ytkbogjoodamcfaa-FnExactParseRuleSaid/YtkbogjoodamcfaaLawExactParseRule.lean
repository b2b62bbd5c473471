/-
  The law FnExactParseRule returns true for every input, and leaves its arguments as they were.
  Conditions: none.
-/
import Derived.Test.YtkbogjoodamcfaaOpen
import Derived.HandedShaped
import Derived.Test.YtkbogjoodamcfaaParse
import Derived.Test.YtkbogjoodamcfaaSide
import Derived.Test.YtkbogjoodamcfaaMaxLen
namespace Go.Proofs.Ytkbogjoodamcfaa.lawExactParseRule
open Go.ChangeShapes Go.WideShapes Go.ChangeAt Go.RowKit
set_option linter.unusedVariables false

set_option maxRecDepth 100000 in
set_option maxHeartbeats 4000000 in
theorem walk (m : Int) (l : List UInt8) (w : World) (hl0 : l.length ≤ 9223372036854775807) (hm : w.cell? ⟨0, 0, none⟩ = some (.int .i64 m)) :
    Calls Try.prog 5 #[.string ⟨l.toArray⟩] w fun e w' => e = .returned (.bool true) ∧ Below w.heap.size w w' := by
  have HM := Lib.hid hm
  clear hm
  by_cases hbig : 1048576 < l.length
  case pos =>
    go_enter Try.func5, Try.ntmps5
    go_wp2
    go_ret
    exact ⟨rfl, Below.refl _ _⟩
  case neg =>
  have hl : l.length ≤ 1048576 := by omega
  have h3 := Lib.hid (fun W => spec_ParseRule_c l W hl)
  have h4 := Lib.hid (fun W h => impl_ParseRule_c m l W hl h)
  generalize M.ParseRule l = x at *
  obtain ⟨⟨zl, zr⟩, zb⟩ := x
  simp only at h3 h4
  have h5 := Lib.hid (fun W => eqRule_t zl zr W)
  cases zb
  all_goals
    go_enter Try.func5, Try.ntmps5
    go_wp2_with fail
    refine (h3.out _).mono ?_
    rintro e w1 ⟨rfl, hb⟩
    have B := below_then (a := w) (by repeat (first | exact Below.refl _ _ | refine Below.setCell ?_ (by simp) _ | refine Below.alloc ?_ (by simp <;> omega) _ | refine below_drewN ?_ _ | refine Below.drew ?_)) hb
    have T := Lib.hid B
    clear hb B
    go_wp2_with fail
    refine (h4.out _ (cellKeep (below_then T.out (by repeat (first | exact Below.refl _ _ | refine Below.setCell ?_ (by simp) _ | refine Below.alloc ?_ (by simp <;> omega) _ | refine below_drewN ?_ _ | refine Below.drew ?_))) HM.out)).mono ?_
    rintro e w2 ⟨rfl, hb⟩
    have B := below_then (a := w1) (by repeat (first | exact Below.refl _ _ | refine Below.setCell ?_ (by simp) _ | refine Below.alloc ?_ (by simp <;> omega) _ | refine below_drewN ?_ _ | refine Below.drew ?_)) hb
    have u0 : w2.cell? ⟨w1.heap.size, 0, none⟩ = some (.string ⟨zl.toArray⟩) := cellKeep hb (by simp [go_sem])
    have u1 : w2.cell? ⟨w1.heap.size, 1, none⟩ = some (.string ⟨zr.toArray⟩) := cellKeep hb (by simp [go_sem])
    replace T := Lib.hid (T.out.trans (B.mono T.out.size))
    clear hb B
    have u0_1 := allocKeep1 u0
    have u1_1 := allocKeep1 u1
    go_wp2_with fail
    clear u0_1 u1_1
    refine (h5.out _).mono ?_
    rintro e w3 ⟨rfl, hb⟩
    have B := below_then (a := w2) (by repeat (first | exact Below.refl _ _ | refine Below.setCell ?_ (by simp) _ | refine Below.alloc ?_ (by simp <;> omega) _ | refine below_drewN ?_ _ | refine Below.drew ?_)) hb
    replace u0 : w3.cell? ⟨w1.heap.size, 0, none⟩ = some (.string ⟨zl.toArray⟩) := cellKeep B u0
    replace u1 : w3.cell? ⟨w1.heap.size, 1, none⟩ = some (.string ⟨zr.toArray⟩) := cellKeep B u1
    have v0 : w3.cell? ⟨w2.heap.size, 0, none⟩ = some (.string ⟨zl.toArray⟩) := cellKeep hb (by simp [go_sem])
    have v1 : w3.cell? ⟨w2.heap.size, 1, none⟩ = some (.string ⟨zr.toArray⟩) := cellKeep hb (by simp [go_sem])
    replace T := Lib.hid (T.out.trans (B.mono T.out.size))
    clear hb B
    go_wp2_with fail
    go_ret
    exact ⟨rfl, T.out.trans ((show Below w3.heap.size w3 _ from (by repeat (first | exact Below.refl _ _ | refine Below.setCell ?_ (by simp) _ | refine Below.alloc ?_ (by simp <;> omega) _ | refine below_drewN ?_ _ | refine Below.drew ?_))).mono T.out.size)⟩

set_option maxRecDepth 100000 in
theorem lifted (os : Os) (started : os.Started) (H : Type) (enc : TypeId × Value → H) :
    ReturnsInHanded {} Try.checked os 5 .any (Rows.fnExactParseRuleSpec.pre6 enc Try.prog Try.f5 Rows.fnExactParseRuleRow.domain false) (Rows.fnExactParseRuleSpec.post enc Try.prog Try.f5 false true false false) := by
  refine returnsInHanded_of_change_shaped (C := Try.checked) Try.own started (by kernel_rfl) Try.func5
    (ChangeSpec.witness6 (enc := enc) (C := Try.checked) false ⟨#[], #[.string ByteArray.empty], []⟩ 8 (by kernel_rfl) (by kernel_rfl) (by kernel_rfl) (by kernel_rfl)) ?_
  intro W base args ds gs before hval0 hW hcnd _ hsh _
  obtain ⟨m, hm⟩ := maxLen_of W hsh
  have hval : ∀ (j : Nat) t v, Try.f5.params[j]? = some t → args[j]? = some v → Value.okWide Try.prog W .any base t v := hval0
  have hW' := hW
  have hlt : ∀ x ∈ before, x.block < W.heap.size := fun x hx => hW.lt x hx
  obtain ⟨p, q, hA0, hV, rfl, hfz, hnd⟩ := hW
  have hA : DataW.TrodAll enc Try.prog W 0 (fun _ => true) true Try.f5.params.toList args.toList ds p := hA0
  rw [Try.params5] at hA hval
  obtain ⟨v0, d0, rfl, rfl, h0⟩ := trodAll_one hA
  clear hA0 hval0 hfz hnd
  obtain ⟨s0, rfl, rfl, rfl, hs0⟩ := Go.ChangeMaps.open_string Try.underlying9 (hval 0 9 v0 rfl rfl) h0
  obtain ⟨l0, rfl⟩ := bytesList s0
  have hl0 := bytesLen hs0
  refine (walk m l0 W hl0 hm).mono fun e W' ⟨he, hg⟩ => ?_
  subst he
  exact ⟨_, rfl, lawPost Try.laidOut (by kernel_rfl) (by kernel_rfl) Try.boolType rfl rfl hW' hg⟩

theorem proved : Rows.FnExactParseRuleSaid :=
  OpenClaim.holds_of_wide 5 Try.f5 rfl rfl rfl rfl rfl rfl rfl ⟨rfl, rfl, rfl, rfl, rfl⟩ rfl rfl rfl rfl rfl (by kernel_rfl) Try.func5 (by kernel_rfl)
    (of_decide_eq_true (by kernel_rfl)) (by unfold Func.isWrapper; first | (rw [if_pos (by decide +kernel)]; kernel_rfl) | (rw [if_neg (by decide +kernel)]; exact ⟨rfl, rfl⟩))
    (fun os started H enc _ => lifted os started H enc)
#print axioms proved
end Go.Proofs.Ytkbogjoodamcfaa.lawExactParseRule
