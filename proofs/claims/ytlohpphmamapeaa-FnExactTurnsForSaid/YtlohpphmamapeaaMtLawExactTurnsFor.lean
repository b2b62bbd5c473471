/-
  The law FnExactTurnsFor returns true for every input, and leaves its arguments as they were.
  Conditions: none.
-/
import Derived.HandedShaped
import Derived.Test.YtlohpphmamapeaaMt1
import Derived.Test.YtlohpphmamapeaaMt5
import Derived.Test.YtlohpphmamapeaaMt6
namespace Go.Proofs.Ytlohpphmamapeaa.lawExactTurnsFor
open Go.ChangeShapes Go.WideShapes Go.ChangeAt Go.RowKit
set_option linter.unusedVariables false

set_option maxRecDepth 100000 in
set_option maxHeartbeats 16000000 in
theorem walk (m : Int) (k : Int) (A : Option Addr) (c : Nat) (rs : List M.Rule) (w : World) (hk : -9223372036854775808 ≤ k ∧ k ≤ 9223372036854775807) (hr : rs.length ≤ 9223372036854775807 ∧ Rd w 2 A rs.length (ruls rs) ∧ ∀ r ∈ rs, r.left.length ≤ 9223372036854775807 ∧ r.right.length ≤ 9223372036854775807) (hm : w.cell? ⟨0, 0, none⟩ = some (.int .i64 m)) :
    Calls Try.prog 12 #[.int .i64 k, .slice A rs.length c] w fun e w' => e = .returned (.bool true) ∧ Below w.heap.size w w' := by
  obtain ⟨hl, hA, hs⟩ := hr
  have RA := Lib.hid hA
  have UA := Lib.hid (hA.blkIn (by decide))
  have HM := Lib.hid hm
  clear hm
  have h1 := Lib.hid (fun W h => szRuleS_c A c rs 1048576 W h hl hs (by omega) (by omega))
  by_cases hz : M.szRules rs 1048576 < 0
  case pos =>
    generalize M.szRules rs 1048576 = z at *
    clear hs hA
    go_enter Try.func12, Try.ntmps12
    go_wp2_with fail
    refine (h1.out _ RA.out).mono ?_
    rintro e w1 ⟨rfl, hb⟩
    have B := below_then (a := w) (by repeat (first | exact Below.refl _ _ | refine Below.setCell ?_ (by simp) _ | refine Below.alloc ?_ (by simp <;> omega) _ | refine below_drewN ?_ _ | refine Below.drew ?_)) hb
    have S1 := Lib.hid (show w.heap.size + 0 ≤ w1.heap.size by have h := hb.size; (try simp at h); omega)
    replace RA := Lib.hid (RA.out.below B)
    have T := Lib.hid B
    clear hb B
    go_wp2_with fail
    go_ret
    exact ⟨rfl, T.out.trans ((show Below w1.heap.size w1 _ from (by repeat (first | exact Below.refl _ _ | refine Below.setCell ?_ (by simp) _ | refine Below.alloc ?_ (by simp <;> omega) _ | refine below_drewN ?_ _ | refine Below.drew ?_))).mono T.out.size)⟩
  case neg =>
    obtain ⟨hl2', hs2, _⟩ := M.szRules_ok hz
    have hl3 : rs.length ≤ 1048576 := by omega
    have hs3 : ∀ r ∈ rs, r.left.length ≤ 1048576 ∧ r.right.length ≤ 1048576 := fun r hr => by have := hs2 r hr; omega
    generalize M.szRules rs 1048576 = z at *
    have h2 := Lib.hid (fun W h => toRuleS_s A c rs W h hl3)
    have h3 := Lib.hid (fun W ad c h => spec_TurnsFor_c k ad c rs W h hl3 hs3)
    have h4 := Lib.hid (fun W ad c h hm => impl_TurnsFor_c m k ad c rs W h hl3 hs3 hm)
    generalize M.turnsOf (M.run k rs) = v at *
    have hk0 : ¬ ((1 : Int) + (rs.length : Int) * 2 < 0) := by omega
    clear hs hA hs2 hs3
    go_enter Try.func12, Try.ntmps12
    go_wp2_with fail
    refine (h1.out _ RA.out).mono ?_
    rintro e w1 ⟨rfl, hb⟩
    have B := below_then (a := w) (by repeat (first | exact Below.refl _ _ | refine Below.setCell ?_ (by simp) _ | refine Below.alloc ?_ (by simp <;> omega) _ | refine below_drewN ?_ _ | refine Below.drew ?_)) hb
    have S1 := Lib.hid (show w.heap.size + 0 ≤ w1.heap.size by have h := hb.size; (try simp at h); omega)
    replace RA := Lib.hid (RA.out.below B)
    have T := Lib.hid B
    clear hb B
    go_wp2_with fail
    refine (h2.out _ (RA.out.below (by repeat (first | exact Below.refl _ _ | refine Below.setCell ?_ (by simp) _ | refine Below.alloc ?_ (by simp <;> omega) _ | refine below_drewN ?_ _ | refine Below.drew ?_)))).mono ?_
    rintro e w2 ⟨rfl, hown, hb⟩
    have B := below_then (a := w1) (by repeat (first | exact Below.refl _ _ | refine Below.setCell ?_ (by simp) _ | refine Below.alloc ?_ (by simp <;> omega) _ | refine below_drewN ?_ _ | refine Below.drew ?_)) hb
    have S2 := Lib.hid (show w1.heap.size + 0 ≤ w2.heap.size by have h := hb.size; (try simp at h); omega)
    replace RA := Lib.hid (RA.out.below B)
    try simp at hown
    have OS := Lib.hid ((hown).mono (base' := w1.heap.size) (by simp <;> omega))
    have US := Lib.hid OS.out.blkIn
    clear hown
    replace T := Lib.hid (T.out.trans (B.mono T.out.size))
    clear hb B
    go_wp2_with fail
    refine (h3.out _ _ _ (OS.out.rd.below (by repeat (first | exact Below.refl _ _ | refine Below.setCell ?_ (by simp) _ | refine Below.alloc ?_ (by simp <;> omega) _ | refine below_drewN ?_ _ | refine Below.drew ?_)))).mono ?_
    rintro e w3 ⟨rfl, hb⟩
    have B := below_then (a := w2) (by repeat (first | exact Below.refl _ _ | refine Below.setCell ?_ (by simp) _ | refine Below.alloc ?_ (by simp <;> omega) _ | refine below_drewN ?_ _ | refine Below.drew ?_)) hb
    have S3 := Lib.hid (show w2.heap.size + 0 ≤ w3.heap.size by have h := hb.size; (try simp at h); omega)
    replace RA := Lib.hid (RA.out.below B)
    replace OS := Lib.hid (OS.out.below B)
    replace T := Lib.hid (T.out.trans (B.mono T.out.size))
    clear hb B
    go_wp2_with fail
    refine (h2.out _ (RA.out.below (by repeat (first | exact Below.refl _ _ | refine Below.setCell ?_ (by simp) _ | refine Below.alloc ?_ (by simp <;> omega) _ | refine below_drewN ?_ _ | refine Below.drew ?_)))).mono ?_
    rintro e w4 ⟨rfl, hown, hb⟩
    have B := below_then (a := w3) (by repeat (first | exact Below.refl _ _ | refine Below.setCell ?_ (by simp) _ | refine Below.alloc ?_ (by simp <;> omega) _ | refine below_drewN ?_ _ | refine Below.drew ?_)) hb
    have S4 := Lib.hid (show w3.heap.size + 0 ≤ w4.heap.size by have h := hb.size; (try simp at h); omega)
    replace RA := Lib.hid (RA.out.below B)
    try simp at hown
    have OX := Lib.hid ((hown).mono (base' := w3.heap.size) (by simp <;> omega))
    have UX := Lib.hid OX.out.blkIn
    clear hown
    replace T := Lib.hid (T.out.trans (B.mono T.out.size))
    clear hb B
    go_wp2_with fail
    refine (h4.out _ _ _ (OX.out.rd.below (by repeat (first | exact Below.refl _ _ | refine Below.setCell ?_ (by simp) _ | refine Below.alloc ?_ (by simp <;> omega) _ | refine below_drewN ?_ _ | refine Below.drew ?_))) (cellKeep (below_then T.out (by repeat (first | exact Below.refl _ _ | refine Below.setCell ?_ (by simp) _ | refine Below.alloc ?_ (by simp <;> omega) _ | refine below_drewN ?_ _ | refine Below.drew ?_))) HM.out)).mono ?_
    rintro e w5 ⟨rfl, hb⟩
    have B := below_then (a := w4) (by repeat (first | exact Below.refl _ _ | refine Below.setCell ?_ (by simp) _ | refine Below.alloc ?_ (by simp <;> omega) _ | refine below_drewN ?_ _ | refine Below.drew ?_)) hb
    have S5 := Lib.hid (show w4.heap.size + 0 ≤ w5.heap.size by have h := hb.size; (try simp at h); omega)
    replace RA := Lib.hid (RA.out.below B)
    replace OX := Lib.hid (OX.out.below B)
    replace T := Lib.hid (T.out.trans (B.mono T.out.size))
    clear hb B
    go_wp2_with fail
    refine (h2.out _ (RA.out.below (by repeat (first | exact Below.refl _ _ | refine Below.setCell ?_ (by simp) _ | refine Below.alloc ?_ (by simp <;> omega) _ | refine below_drewN ?_ _ | refine Below.drew ?_)))).mono ?_
    rintro e w6 ⟨rfl, hown, hb⟩
    have B := below_then (a := w5) (by repeat (first | exact Below.refl _ _ | refine Below.setCell ?_ (by simp) _ | refine Below.alloc ?_ (by simp <;> omega) _ | refine below_drewN ?_ _ | refine Below.drew ?_)) hb
    have S6 := Lib.hid (show w5.heap.size + 0 ≤ w6.heap.size by have h := hb.size; (try simp at h); omega)
    replace RA := Lib.hid (RA.out.below B)
    replace OX := Lib.hid (OX.out.below B)
    try simp at hown
    have OU := Lib.hid ((hown).mono (base' := w5.heap.size) (by simp <;> omega))
    have UU := Lib.hid OU.out.blkIn
    clear hown
    replace T := Lib.hid (T.out.trans (B.mono T.out.size))
    clear hb B
    go_wp2_with fail
    refine (eqRuleS_t _ _ _ _ rs _ OX.out.rd OU.out.rd (by omega)).mono ?_
    rintro e w7 ⟨rfl, hb⟩
    have B := below_then (a := w6) (by repeat (first | exact Below.refl _ _ | refine Below.setCell ?_ (by simp) _ | refine Below.alloc ?_ (by simp <;> omega) _ | refine below_drewN ?_ _ | refine Below.drew ?_)) hb
    have S7 := Lib.hid (show w6.heap.size + 0 ≤ w7.heap.size by have h := hb.size; (try simp at h); omega)
    replace RA := Lib.hid (RA.out.below B)
    replace OX := Lib.hid (OX.out.below B)
    replace OU := Lib.hid (OU.out.below B)
    replace T := Lib.hid (T.out.trans (B.mono T.out.size))
    clear hb B
    go_wp2_with fail
    go_ret
    exact ⟨rfl, T.out.trans ((show Below w7.heap.size w7 _ from (by repeat (first | exact Below.refl _ _ | refine Below.setCell ?_ (by simp) _ | refine Below.alloc ?_ (by simp <;> omega) _ | refine below_drewN ?_ _ | refine Below.drew ?_))).mono T.out.size)⟩

set_option maxRecDepth 100000 in
theorem lifted (os : Os) (started : os.Started) (H : Type) (enc : TypeId × Value → H) :
    ReturnsInHanded {} Try.checked os 12 .any (Rows.fnExactTurnsForSpec.pre6 enc Try.prog Try.f12 Rows.fnExactTurnsForRow.domain false) (Rows.fnExactTurnsForSpec.post enc Try.prog Try.f12 false true false false) := by
  refine returnsInHanded_of_change_shaped (C := Try.checked) Try.own started (by kernel_rfl) Try.func12
    (ChangeSpec.witness6 (enc := enc) (C := Try.checked) false ⟨#[], #[.int .i64 0, .slice none 0 0], []⟩ 8 (by kernel_rfl) (by kernel_rfl) (by kernel_rfl) (by kernel_rfl)) ?_
  intro W base args ds gs before hval0 hW hcnd _ hsh _
  obtain ⟨m, hm⟩ := maxLen_of W hsh
  have hval : ∀ (j : Nat) t v, Try.f12.params[j]? = some t → args[j]? = some v → Value.okWide Try.prog W .any base t v := hval0
  have hW' := hW
  have hlt : ∀ x ∈ before, x.block < W.heap.size := fun x hx => hW.lt x hx
  obtain ⟨p, q, hA0, hV, rfl, hfz, hnd⟩ := hW
  have hA : DataW.TrodAll enc Try.prog W 0 (fun _ => true) true Try.f12.params.toList args.toList ds p := hA0
  rw [Try.params12] at hA hval
  obtain ⟨v0, v1, d0, d1, p0, p1, rfl, rfl, rfl, h0, h1⟩ := trodAll_two hA
  clear hA0 hval0 hfz hnd
  obtain ⟨n0, rfl, rfl, rfl, wf0⟩ := open_int Try.underlying3 (hval 0 3 v0 rfl rfl) h0
  have hn0 := intBounds wf0
  obtain ⟨A1, c1, rs1, rfl, hr1⟩ := openRules (hval 1 22 v1 rfl rfl) h1
  refine (walk m n0 A1 c1 rs1 W hn0 hr1 hm).mono fun e W' ⟨he, hg⟩ => ?_
  subst he
  exact ⟨_, rfl, lawPost Try.laidOut (by kernel_rfl) (by kernel_rfl) Try.boolType rfl rfl hW' hg⟩

theorem proved : Rows.FnExactTurnsForSaid :=
  OpenClaim.holds_of_wide 12 Try.f12 rfl rfl rfl rfl rfl rfl rfl ⟨rfl, rfl, rfl, rfl, rfl⟩ rfl rfl rfl rfl rfl (by kernel_rfl) Try.func12 (by kernel_rfl)
    (of_decide_eq_true (by kernel_rfl)) (by unfold Func.isWrapper; first | (rw [if_pos (by decide +kernel)]; kernel_rfl) | (rw [if_neg (by decide +kernel)]; exact ⟨rfl, rfl⟩))
    (fun os started H enc _ => lifted os started H enc)
#print axioms proved
end Go.Proofs.Ytlohpphmamapeaa.lawExactTurnsFor
