/-
  The law FnExactComplete returns true for every input, and leaves its arguments as they were.
  Conditions: none.
-/
import Derived.HandedShaped
import Derived.Test.YtlohpphmamapeaaMt1
import Derived.Test.YtlohpphmamapeaaMt5
import Derived.Test.YtlohpphmamapeaaMt6
namespace Go.Proofs.Ytlohpphmamapeaa.lawExactComplete
open Go.ChangeShapes Go.WideShapes Go.ChangeAt Go.RowKit
set_option linter.unusedVariables false

set_option maxRecDepth 100000 in
set_option maxHeartbeats 16000000 in
theorem walk (m : Int) (k : Int) (A : Option Addr) (c : Nat) (rs : List M.Rule) (w : World) (hk : -9223372036854775808 ≤ k ∧ k ≤ 9223372036854775807) (hr : rs.length ≤ 9223372036854775807 ∧ Rd w 2 A rs.length (ruls rs) ∧ ∀ r ∈ rs, r.left.length ≤ 9223372036854775807 ∧ r.right.length ≤ 9223372036854775807) (hm : w.cell? ⟨0, 0, none⟩ = some (.int .i64 m)) :
    Calls Try.prog 11 #[.int .i64 k, .slice A rs.length c] w fun e w' => e = .returned (.bool true) ∧ Below w.heap.size w w' := by
  obtain ⟨hl, hA, hs⟩ := hr
  have RA := Lib.hid hA
  have UA := Lib.hid (hA.blkIn (by decide))
  have HM := Lib.hid hm
  clear hm
  have h1 := Lib.hid (fun W h => szRuleS_c A c rs 1048576 W h hl hs (by omega) (by omega))
  by_cases hz : M.szRules rs 1048576 < 0
  case pos =>
    generalize M.szRules rs 1048576 = z at *
    clear hs hA
    go_enter Try.func11, Try.ntmps11
    go_wp2_with fail
    refine (h1.out _ RA.out).mono ?_
    rintro e w1 ⟨rfl, hb⟩
    have B := below_then (a := w) (by repeat (first | exact Below.refl _ _ | refine Below.setCell ?_ (by simp) _ | refine Below.alloc ?_ (by simp <;> omega) _ | refine below_drewN ?_ _ | refine Below.drew ?_)) hb
    have S1 := Lib.hid (show w.heap.size + 0 ≤ w1.heap.size by have h := hb.size; (try simp at h); omega)
    replace RA := Lib.hid (RA.out.below B)
    have T := Lib.hid B
    clear hb B
    go_wp2_with fail
    go_ret
    exact ⟨rfl, T.out.trans ((show Below w1.heap.size w1 _ from (by repeat (first | exact Below.refl _ _ | refine Below.setCell ?_ (by simp) _ | refine Below.alloc ?_ (by simp <;> omega) _ | refine below_drewN ?_ _ | refine Below.drew ?_))).mono T.out.size)⟩
  case neg =>
    obtain ⟨hl2', hs2, _⟩ := M.szRules_ok hz
    have hl3 : rs.length ≤ 1048576 := by omega
    have hs3 : ∀ r ∈ rs, r.left.length ≤ 1048576 ∧ r.right.length ≤ 1048576 := fun r hr => by have := hs2 r hr; omega
    generalize M.szRules rs 1048576 = z at *
    have h2 := Lib.hid (fun W h => toRuleS_s A c rs W h hl3)
    have h3 := Lib.hid (fun W ad c h => spec_Complete_c k ad c rs W h hl3 hs3)
    have h4 := Lib.hid (fun W ad c h hm => impl_Complete_c m k ad c rs W h hl3 hs3 hm)
    have hy := run_size (k := k) hl3
    generalize M.startK k rs = sk at *
    generalize M.run k rs = X at *
    obtain ⟨ys, vs, tt, code⟩ := X
    unfold RetComp at h3 h4
    simp only at h3 h4 hy
    have hk1 : ¬ ((1 : Int) + (ys.length : Int) * 2 < 0) := by omega
    have hk0 : ¬ ((1 : Int) + (rs.length : Int) * 2 < 0) := by omega
    clear hs hA hs2 hs3
    go_enter Try.func11, Try.ntmps11
    go_wp2_with fail
    refine (h1.out _ RA.out).mono ?_
    rintro e w1 ⟨rfl, hb⟩
    have B := below_then (a := w) (by repeat (first | exact Below.refl _ _ | refine Below.setCell ?_ (by simp) _ | refine Below.alloc ?_ (by simp <;> omega) _ | refine below_drewN ?_ _ | refine Below.drew ?_)) hb
    have S1 := Lib.hid (show w.heap.size + 0 ≤ w1.heap.size by have h := hb.size; (try simp at h); omega)
    replace RA := Lib.hid (RA.out.below B)
    have T := Lib.hid B
    clear hb B
    go_wp2_with fail
    refine (h2.out _ (RA.out.below (by repeat (first | exact Below.refl _ _ | refine Below.setCell ?_ (by simp) _ | refine Below.alloc ?_ (by simp <;> omega) _ | refine below_drewN ?_ _ | refine Below.drew ?_)))).mono ?_
    rintro e w2 ⟨rfl, hown, hb⟩
    have B := below_then (a := w1) (by repeat (first | exact Below.refl _ _ | refine Below.setCell ?_ (by simp) _ | refine Below.alloc ?_ (by simp <;> omega) _ | refine below_drewN ?_ _ | refine Below.drew ?_)) hb
    have S2 := Lib.hid (show w1.heap.size + 0 ≤ w2.heap.size by have h := hb.size; (try simp at h); omega)
    replace RA := Lib.hid (RA.out.below B)
    try simp at hown
    have OS := Lib.hid ((hown).mono (base' := w1.heap.size) (by simp <;> omega))
    have US := Lib.hid OS.out.blkIn
    clear hown
    replace T := Lib.hid (T.out.trans (B.mono T.out.size))
    clear hb B
    go_wp2_with fail
    refine (h3.out _ _ _ (OS.out.rd.below (by repeat (first | exact Below.refl _ _ | refine Below.setCell ?_ (by simp) _ | refine Below.alloc ?_ (by simp <;> omega) _ | refine below_drewN ?_ _ | refine Below.drew ?_)))).mono ?_
    rintro e w3 ⟨AW, cW, rfl, hownA, hb⟩
    have B := below_then (a := w2) (by repeat (first | exact Below.refl _ _ | refine Below.setCell ?_ (by simp) _ | refine Below.alloc ?_ (by simp <;> omega) _ | refine below_drewN ?_ _ | refine Below.drew ?_)) hb
    have S3 := Lib.hid (show w2.heap.size + 0 ≤ w3.heap.size by have h := hb.size; (try simp at h); omega)
    replace RA := Lib.hid (RA.out.below B)
    replace OS := Lib.hid (OS.out.below B)
    have OW := Lib.hid ((hownA.own).mono (base' := w2.heap.size) (by simp <;> omega))
    have UW := Lib.hid OW.out.blkIn
    clear hownA
    replace T := Lib.hid (T.out.trans (B.mono T.out.size))
    clear hb B
    go_wp2_with fail
    refine (h2.out _ (RA.out.below (by repeat (first | exact Below.refl _ _ | refine Below.setCell ?_ (by simp) _ | refine Below.alloc ?_ (by simp <;> omega) _ | refine below_drewN ?_ _ | refine Below.drew ?_)))).mono ?_
    rintro e w4 ⟨rfl, hown, hb⟩
    have B := below_then (a := w3) (by repeat (first | exact Below.refl _ _ | refine Below.setCell ?_ (by simp) _ | refine Below.alloc ?_ (by simp <;> omega) _ | refine below_drewN ?_ _ | refine Below.drew ?_)) hb
    have S4 := Lib.hid (show w3.heap.size + 1 ≤ w4.heap.size by have h := hb.size; (try simp at h); omega)
    replace RA := Lib.hid (RA.out.below B)
    replace OW := Lib.hid (OW.out.below B)
    have u0 : w4.cell? ⟨w3.heap.size, 0, none⟩ = some (.int .i64 sk) := cellKeep hb (by simp [go_sem])
    have u1 : w4.cell? ⟨w3.heap.size, 1, none⟩ = some (.slice AW ys.length cW) := cellKeep hb (by simp [go_sem])
    try simp at hown
    have OX := Lib.hid ((hown).mono (base' := w3.heap.size + 1) (by simp <;> omega))
    have UX := Lib.hid OX.out.blkIn
    clear hown
    replace T := Lib.hid (T.out.trans (B.mono T.out.size))
    clear hb B
    go_wp2_with fail
    refine (h4.out _ _ _ (OX.out.rd.below (by repeat (first | exact Below.refl _ _ | refine Below.setCell ?_ (by simp) _ | refine Below.alloc ?_ (by simp <;> omega) _ | refine below_drewN ?_ _ | refine Below.drew ?_))) (cellKeep (below_then T.out (by repeat (first | exact Below.refl _ _ | refine Below.setCell ?_ (by simp) _ | refine Below.alloc ?_ (by simp <;> omega) _ | refine below_drewN ?_ _ | refine Below.drew ?_))) HM.out)).mono ?_
    rintro e w5 ⟨AG, cG, rfl, hownA, hb⟩
    have B := below_then (a := w4) (by repeat (first | exact Below.refl _ _ | refine Below.setCell ?_ (by simp) _ | refine Below.alloc ?_ (by simp <;> omega) _ | refine below_drewN ?_ _ | refine Below.drew ?_)) hb
    have S5 := Lib.hid (show w4.heap.size + 0 ≤ w5.heap.size by have h := hb.size; (try simp at h); omega)
    replace u0 : w5.cell? ⟨w3.heap.size, 0, none⟩ = some (.int .i64 sk) := cellKeep B u0
    replace u1 : w5.cell? ⟨w3.heap.size, 1, none⟩ = some (.slice AW ys.length cW) := cellKeep B u1
    replace RA := Lib.hid (RA.out.below B)
    replace OW := Lib.hid (OW.out.below B)
    replace OX := Lib.hid (OX.out.below B)
    have OG := Lib.hid ((hownA.own).mono (base' := w4.heap.size) (by simp <;> omega))
    have UG := Lib.hid OG.out.blkIn
    clear hownA
    replace T := Lib.hid (T.out.trans (B.mono T.out.size))
    clear hb B
    have u0_1 := allocKeep1 u0
    have u1_1 := allocKeep1 u1
    go_wp2_with fail
    clear u0_1 u1_1
    refine (eqSystem_t sk _ _ _ _ ys _ (OG.out.rd.below (by repeat (first | exact Below.refl _ _ | refine Below.setCell ?_ (by simp) _ | refine Below.alloc ?_ (by simp <;> omega) _ | refine below_drewN ?_ _ | refine Below.drew ?_))) (OW.out.rd.below (by repeat (first | exact Below.refl _ _ | refine Below.setCell ?_ (by simp) _ | refine Below.alloc ?_ (by simp <;> omega) _ | refine below_drewN ?_ _ | refine Below.drew ?_))) (by omega)).mono ?_
    rintro e w6 ⟨rfl, hb⟩
    have B := below_then (a := w5) (by repeat (first | exact Below.refl _ _ | refine Below.setCell ?_ (by simp) _ | refine Below.alloc ?_ (by simp <;> omega) _ | refine below_drewN ?_ _ | refine Below.drew ?_)) hb
    have S6 := Lib.hid (show w5.heap.size + 1 ≤ w6.heap.size by have h := hb.size; (try simp at h); omega)
    replace u0 : w6.cell? ⟨w3.heap.size, 0, none⟩ = some (.int .i64 sk) := cellKeep B u0
    replace u1 : w6.cell? ⟨w3.heap.size, 1, none⟩ = some (.slice AW ys.length cW) := cellKeep B u1
    replace RA := Lib.hid (RA.out.below B)
    replace OW := Lib.hid (OW.out.below B)
    replace OX := Lib.hid (OX.out.below B)
    replace OG := Lib.hid (OG.out.below B)
    have g0 : w6.cell? ⟨w5.heap.size, 0, none⟩ = some (.int .i64 sk) := cellKeep hb (by simp [go_sem])
    have g1 : w6.cell? ⟨w5.heap.size, 1, none⟩ = some (.slice AG ys.length cG) := cellKeep hb (by simp [go_sem])
    replace T := Lib.hid (T.out.trans (B.mono T.out.size))
    clear hb B
    go_wp2_with fail
    refine (h2.out _ (RA.out.below (by repeat (first | exact Below.refl _ _ | refine Below.setCell ?_ (by simp) _ | refine Below.alloc ?_ (by simp <;> omega) _ | refine below_drewN ?_ _ | refine Below.drew ?_)))).mono ?_
    rintro e w7 ⟨rfl, hown, hb⟩
    have B := below_then (a := w6) (by repeat (first | exact Below.refl _ _ | refine Below.setCell ?_ (by simp) _ | refine Below.alloc ?_ (by simp <;> omega) _ | refine below_drewN ?_ _ | refine Below.drew ?_)) hb
    have S7 := Lib.hid (show w6.heap.size + 0 ≤ w7.heap.size by have h := hb.size; (try simp at h); omega)
    replace u0 : w7.cell? ⟨w3.heap.size, 0, none⟩ = some (.int .i64 sk) := cellKeep B u0
    replace u1 : w7.cell? ⟨w3.heap.size, 1, none⟩ = some (.slice AW ys.length cW) := cellKeep B u1
    replace g0 : w7.cell? ⟨w5.heap.size, 0, none⟩ = some (.int .i64 sk) := cellKeep B g0
    replace g1 : w7.cell? ⟨w5.heap.size, 1, none⟩ = some (.slice AG ys.length cG) := cellKeep B g1
    replace RA := Lib.hid (RA.out.below B)
    replace OW := Lib.hid (OW.out.below B)
    replace OX := Lib.hid (OX.out.below B)
    replace OG := Lib.hid (OG.out.below B)
    try simp at hown
    have OU := Lib.hid ((hown).mono (base' := w6.heap.size) (by simp <;> omega))
    have UU := Lib.hid OU.out.blkIn
    clear hown
    replace T := Lib.hid (T.out.trans (B.mono T.out.size))
    clear hb B
    go_wp2_with fail
    refine (eqRuleS_t _ _ _ _ rs _ OX.out.rd OU.out.rd (by omega)).mono ?_
    rintro e w8 ⟨rfl, hb⟩
    have B := below_then (a := w7) (by repeat (first | exact Below.refl _ _ | refine Below.setCell ?_ (by simp) _ | refine Below.alloc ?_ (by simp <;> omega) _ | refine below_drewN ?_ _ | refine Below.drew ?_)) hb
    have S8 := Lib.hid (show w7.heap.size + 0 ≤ w8.heap.size by have h := hb.size; (try simp at h); omega)
    replace u0 : w8.cell? ⟨w3.heap.size, 0, none⟩ = some (.int .i64 sk) := cellKeep B u0
    replace u1 : w8.cell? ⟨w3.heap.size, 1, none⟩ = some (.slice AW ys.length cW) := cellKeep B u1
    replace g0 : w8.cell? ⟨w5.heap.size, 0, none⟩ = some (.int .i64 sk) := cellKeep B g0
    replace g1 : w8.cell? ⟨w5.heap.size, 1, none⟩ = some (.slice AG ys.length cG) := cellKeep B g1
    replace RA := Lib.hid (RA.out.below B)
    replace OW := Lib.hid (OW.out.below B)
    replace OX := Lib.hid (OX.out.below B)
    replace OG := Lib.hid (OG.out.below B)
    replace OU := Lib.hid (OU.out.below B)
    replace T := Lib.hid (T.out.trans (B.mono T.out.size))
    clear hb B
    go_wp2_with fail
    refine (markRuleS_c _ rs.length _ _ _ 1 _ OX.out (by omega) (by omega) (by omega)).mono ?_
    rintro e w9 ⟨rfl, ho, hg⟩
    have S9 := Lib.hid (show w8.heap.size + 0 ≤ w9.heap.size by have h := hg.size; (try simp at h); omega)
    replace u0 : w9.cell? ⟨w3.heap.size, 0, none⟩ = some (.int .i64 sk) := cellGrown hg u0 (blk_off UX.out (by have h1 := S1.out; have h2 := S2.out; have h3 := S3.out; have h4 := S4.out; have h5 := S5.out; have h6 := S6.out; have h7 := S7.out; have h8 := S8.out; omega))
    replace u1 : w9.cell? ⟨w3.heap.size, 1, none⟩ = some (.slice AW ys.length cW) := cellGrown hg u1 (blk_off UX.out (by have h1 := S1.out; have h2 := S2.out; have h3 := S3.out; have h4 := S4.out; have h5 := S5.out; have h6 := S6.out; have h7 := S7.out; have h8 := S8.out; omega))
    replace g0 : w9.cell? ⟨w5.heap.size, 0, none⟩ = some (.int .i64 sk) := cellGrown hg g0 (blk_off UX.out (by have h1 := S1.out; have h2 := S2.out; have h3 := S3.out; have h4 := S4.out; have h5 := S5.out; have h6 := S6.out; have h7 := S7.out; have h8 := S8.out; omega))
    replace g1 : w9.cell? ⟨w5.heap.size, 1, none⟩ = some (.slice AG ys.length cG) := cellGrown hg g1 (blk_off UX.out (by have h1 := S1.out; have h2 := S2.out; have h3 := S3.out; have h4 := S4.out; have h5 := S5.out; have h6 := S6.out; have h7 := S7.out; have h8 := S8.out; omega))
    replace RA := Lib.hid (RA.out.grown' hg (blk_ne UA.out UX.out (by have h1 := S1.out; have h2 := S2.out; have h3 := S3.out; have h4 := S4.out; have h5 := S5.out; have h6 := S6.out; have h7 := S7.out; have h8 := S8.out; omega)))
    replace OW := Lib.hid (OW.out.grown hg (blk_ne UW.out UX.out (by have h1 := S1.out; have h2 := S2.out; have h3 := S3.out; have h4 := S4.out; have h5 := S5.out; have h6 := S6.out; have h7 := S7.out; have h8 := S8.out; omega)))
    replace OG := Lib.hid (OG.out.grown hg (blk_ne UG.out UX.out (by have h1 := S1.out; have h2 := S2.out; have h3 := S3.out; have h4 := S4.out; have h5 := S5.out; have h6 := S6.out; have h7 := S7.out; have h8 := S8.out; omega)))
    replace OX := Lib.hid ho
    replace T := Lib.hid (below_grown T.out T.out.size hg UX.out (by have h1 := S1.out; have h2 := S2.out; have h3 := S3.out; have h4 := S4.out; have h5 := S5.out; have h6 := S6.out; have h7 := S7.out; have h8 := S8.out; omega))
    clear ho hg
    go_wp2_with fail
    refine (eqSystem_t sk _ _ _ _ ys _ (OG.out.rd.below (by repeat (first | exact Below.refl _ _ | refine Below.setCell ?_ (by simp) _ | refine Below.alloc ?_ (by simp <;> omega) _ | refine below_drewN ?_ _ | refine Below.drew ?_))) (OW.out.rd.below (by repeat (first | exact Below.refl _ _ | refine Below.setCell ?_ (by simp) _ | refine Below.alloc ?_ (by simp <;> omega) _ | refine below_drewN ?_ _ | refine Below.drew ?_))) (by omega)).mono ?_
    rintro e w10 ⟨rfl, hb⟩
    have B := below_then (a := w9) (by repeat (first | exact Below.refl _ _ | refine Below.setCell ?_ (by simp) _ | refine Below.alloc ?_ (by simp <;> omega) _ | refine below_drewN ?_ _ | refine Below.drew ?_)) hb
    have S10 := Lib.hid (show w9.heap.size + 0 ≤ w10.heap.size by have h := hb.size; (try simp at h); omega)
    replace u0 : w10.cell? ⟨w3.heap.size, 0, none⟩ = some (.int .i64 sk) := cellKeep B u0
    replace u1 : w10.cell? ⟨w3.heap.size, 1, none⟩ = some (.slice AW ys.length cW) := cellKeep B u1
    replace g0 : w10.cell? ⟨w5.heap.size, 0, none⟩ = some (.int .i64 sk) := cellKeep B g0
    replace g1 : w10.cell? ⟨w5.heap.size, 1, none⟩ = some (.slice AG ys.length cG) := cellKeep B g1
    replace RA := Lib.hid (RA.out.below B)
    replace OW := Lib.hid (OW.out.below B)
    replace OX := Lib.hid (OX.out.below B)
    replace OG := Lib.hid (OG.out.below B)
    replace T := Lib.hid (T.out.trans (B.mono T.out.size))
    clear hb B
    go_wp2_with fail
    refine (markSystem_c sk AG ys.length cG _ _ 1 _ OG.out (by omega) (by omega) (by omega)).mono ?_
    rintro e w11 ⟨rfl, ho, hg⟩
    have S11 := Lib.hid (show w10.heap.size + 0 ≤ w11.heap.size by have h := hg.size; (try simp at h); omega)
    replace u0 : w11.cell? ⟨w3.heap.size, 0, none⟩ = some (.int .i64 sk) := cellGrown hg u0 (blk_off UG.out (by have h1 := S1.out; have h2 := S2.out; have h3 := S3.out; have h4 := S4.out; have h5 := S5.out; have h6 := S6.out; have h7 := S7.out; have h8 := S8.out; have h9 := S9.out; have h10 := S10.out; omega))
    replace u1 : w11.cell? ⟨w3.heap.size, 1, none⟩ = some (.slice AW ys.length cW) := cellGrown hg u1 (blk_off UG.out (by have h1 := S1.out; have h2 := S2.out; have h3 := S3.out; have h4 := S4.out; have h5 := S5.out; have h6 := S6.out; have h7 := S7.out; have h8 := S8.out; have h9 := S9.out; have h10 := S10.out; omega))
    replace g0 : w11.cell? ⟨w5.heap.size, 0, none⟩ = some (.int .i64 sk) := cellGrown hg g0 (blk_off UG.out (by have h1 := S1.out; have h2 := S2.out; have h3 := S3.out; have h4 := S4.out; have h5 := S5.out; have h6 := S6.out; have h7 := S7.out; have h8 := S8.out; have h9 := S9.out; have h10 := S10.out; omega))
    replace g1 : w11.cell? ⟨w5.heap.size, 1, none⟩ = some (.slice AG ys.length cG) := cellGrown hg g1 (blk_off UG.out (by have h1 := S1.out; have h2 := S2.out; have h3 := S3.out; have h4 := S4.out; have h5 := S5.out; have h6 := S6.out; have h7 := S7.out; have h8 := S8.out; have h9 := S9.out; have h10 := S10.out; omega))
    replace RA := Lib.hid (RA.out.grown' hg (blk_ne UA.out UG.out (by have h1 := S1.out; have h2 := S2.out; have h3 := S3.out; have h4 := S4.out; have h5 := S5.out; have h6 := S6.out; have h7 := S7.out; have h8 := S8.out; have h9 := S9.out; have h10 := S10.out; omega)))
    replace OW := Lib.hid (OW.out.grown hg (blk_ne UW.out UG.out (by have h1 := S1.out; have h2 := S2.out; have h3 := S3.out; have h4 := S4.out; have h5 := S5.out; have h6 := S6.out; have h7 := S7.out; have h8 := S8.out; have h9 := S9.out; have h10 := S10.out; omega)))
    replace OX := Lib.hid (OX.out.grown hg (blk_ne UX.out UG.out (by have h1 := S1.out; have h2 := S2.out; have h3 := S3.out; have h4 := S4.out; have h5 := S5.out; have h6 := S6.out; have h7 := S7.out; have h8 := S8.out; have h9 := S9.out; have h10 := S10.out; omega)))
    replace OG := Lib.hid ho
    replace T := Lib.hid (below_grown T.out T.out.size hg UG.out (by have h1 := S1.out; have h2 := S2.out; have h3 := S3.out; have h4 := S4.out; have h5 := S5.out; have h6 := S6.out; have h7 := S7.out; have h8 := S8.out; have h9 := S9.out; have h10 := S10.out; omega))
    clear ho hg
    go_wp2_with fail
    refine (heldSystem_c sk AG ys.length cG 1 _ OG.out.rd (by omega) (by omega) (by omega)).mono ?_
    rintro e w12 ⟨rfl, hb⟩
    have B := below_then (a := w11) (by repeat (first | exact Below.refl _ _ | refine Below.setCell ?_ (by simp) _ | refine Below.alloc ?_ (by simp <;> omega) _ | refine below_drewN ?_ _ | refine Below.drew ?_)) hb
    have S12 := Lib.hid (show w11.heap.size + 0 ≤ w12.heap.size by have h := hb.size; (try simp at h); omega)
    replace u0 : w12.cell? ⟨w3.heap.size, 0, none⟩ = some (.int .i64 sk) := cellKeep B u0
    replace u1 : w12.cell? ⟨w3.heap.size, 1, none⟩ = some (.slice AW ys.length cW) := cellKeep B u1
    replace g0 : w12.cell? ⟨w5.heap.size, 0, none⟩ = some (.int .i64 sk) := cellKeep B g0
    replace g1 : w12.cell? ⟨w5.heap.size, 1, none⟩ = some (.slice AG ys.length cG) := cellKeep B g1
    replace RA := Lib.hid (RA.out.below B)
    replace OW := Lib.hid (OW.out.below B)
    replace OX := Lib.hid (OX.out.below B)
    replace OG := Lib.hid (OG.out.below B)
    replace T := Lib.hid (T.out.trans (B.mono T.out.size))
    clear hb B
    go_wp2_with fail
    refine (h2.out _ (RA.out.below (by repeat (first | exact Below.refl _ _ | refine Below.setCell ?_ (by simp) _ | refine Below.alloc ?_ (by simp <;> omega) _ | refine below_drewN ?_ _ | refine Below.drew ?_)))).mono ?_
    rintro e w13 ⟨rfl, hown, hb⟩
    have B := below_then (a := w12) (by repeat (first | exact Below.refl _ _ | refine Below.setCell ?_ (by simp) _ | refine Below.alloc ?_ (by simp <;> omega) _ | refine below_drewN ?_ _ | refine Below.drew ?_)) hb
    have S13 := Lib.hid (show w12.heap.size + 0 ≤ w13.heap.size by have h := hb.size; (try simp at h); omega)
    replace u0 : w13.cell? ⟨w3.heap.size, 0, none⟩ = some (.int .i64 sk) := cellKeep B u0
    replace u1 : w13.cell? ⟨w3.heap.size, 1, none⟩ = some (.slice AW ys.length cW) := cellKeep B u1
    replace g0 : w13.cell? ⟨w5.heap.size, 0, none⟩ = some (.int .i64 sk) := cellKeep B g0
    replace g1 : w13.cell? ⟨w5.heap.size, 1, none⟩ = some (.slice AG ys.length cG) := cellKeep B g1
    replace RA := Lib.hid (RA.out.below B)
    replace OW := Lib.hid (OW.out.below B)
    replace OX := Lib.hid (OX.out.below B)
    replace OG := Lib.hid (OG.out.below B)
    try simp at hown
    have OZ := Lib.hid ((hown).mono (base' := w12.heap.size) (by simp <;> omega))
    have UZ := Lib.hid OZ.out.blkIn
    clear hown
    replace T := Lib.hid (T.out.trans (B.mono T.out.size))
    clear hb B
    go_wp2_with fail
    refine (h4.out _ _ _ (OZ.out.rd.below (by repeat (first | exact Below.refl _ _ | refine Below.setCell ?_ (by simp) _ | refine Below.alloc ?_ (by simp <;> omega) _ | refine below_drewN ?_ _ | refine Below.drew ?_))) (cellKeep (below_then T.out (by repeat (first | exact Below.refl _ _ | refine Below.setCell ?_ (by simp) _ | refine Below.alloc ?_ (by simp <;> omega) _ | refine below_drewN ?_ _ | refine Below.drew ?_))) HM.out)).mono ?_
    rintro e w14 ⟨AH, cH, rfl, hownA, hb⟩
    have B := below_then (a := w13) (by repeat (first | exact Below.refl _ _ | refine Below.setCell ?_ (by simp) _ | refine Below.alloc ?_ (by simp <;> omega) _ | refine below_drewN ?_ _ | refine Below.drew ?_)) hb
    have S14 := Lib.hid (show w13.heap.size + 0 ≤ w14.heap.size by have h := hb.size; (try simp at h); omega)
    replace u0 : w14.cell? ⟨w3.heap.size, 0, none⟩ = some (.int .i64 sk) := cellKeep B u0
    replace u1 : w14.cell? ⟨w3.heap.size, 1, none⟩ = some (.slice AW ys.length cW) := cellKeep B u1
    replace g0 : w14.cell? ⟨w5.heap.size, 0, none⟩ = some (.int .i64 sk) := cellKeep B g0
    replace g1 : w14.cell? ⟨w5.heap.size, 1, none⟩ = some (.slice AG ys.length cG) := cellKeep B g1
    replace RA := Lib.hid (RA.out.below B)
    replace OW := Lib.hid (OW.out.below B)
    replace OX := Lib.hid (OX.out.below B)
    replace OG := Lib.hid (OG.out.below B)
    replace OZ := Lib.hid (OZ.out.below B)
    have OH := Lib.hid ((hownA.own).mono (base' := w13.heap.size) (by simp <;> omega))
    have UH := Lib.hid OH.out.blkIn
    clear hownA
    replace T := Lib.hid (T.out.trans (B.mono T.out.size))
    clear hb B
    have u0_1 := allocKeep1 u0
    have u1_1 := allocKeep1 u1
    have g0_1 := allocKeep1 g0
    have g1_1 := allocKeep1 g1
    go_wp2_with fail
    clear u0_1 u1_1 g0_1 g1_1
    refine (eqSystem_t sk _ _ _ _ ys _ (OH.out.rd.below (by repeat (first | exact Below.refl _ _ | refine Below.setCell ?_ (by simp) _ | refine Below.alloc ?_ (by simp <;> omega) _ | refine below_drewN ?_ _ | refine Below.drew ?_))) (OW.out.rd.below (by repeat (first | exact Below.refl _ _ | refine Below.setCell ?_ (by simp) _ | refine Below.alloc ?_ (by simp <;> omega) _ | refine below_drewN ?_ _ | refine Below.drew ?_))) (by omega)).mono ?_
    rintro e w15 ⟨rfl, hb⟩
    have B := below_then (a := w14) (by repeat (first | exact Below.refl _ _ | refine Below.setCell ?_ (by simp) _ | refine Below.alloc ?_ (by simp <;> omega) _ | refine below_drewN ?_ _ | refine Below.drew ?_)) hb
    have S15 := Lib.hid (show w14.heap.size + 1 ≤ w15.heap.size by have h := hb.size; (try simp at h); omega)
    replace u0 : w15.cell? ⟨w3.heap.size, 0, none⟩ = some (.int .i64 sk) := cellKeep B u0
    replace u1 : w15.cell? ⟨w3.heap.size, 1, none⟩ = some (.slice AW ys.length cW) := cellKeep B u1
    replace g0 : w15.cell? ⟨w5.heap.size, 0, none⟩ = some (.int .i64 sk) := cellKeep B g0
    replace g1 : w15.cell? ⟨w5.heap.size, 1, none⟩ = some (.slice AG ys.length cG) := cellKeep B g1
    replace RA := Lib.hid (RA.out.below B)
    replace OW := Lib.hid (OW.out.below B)
    replace OX := Lib.hid (OX.out.below B)
    replace OG := Lib.hid (OG.out.below B)
    replace OZ := Lib.hid (OZ.out.below B)
    replace OH := Lib.hid (OH.out.below B)
    have h0 : w15.cell? ⟨w14.heap.size, 0, none⟩ = some (.int .i64 sk) := cellKeep hb (by simp [go_sem])
    have h1 : w15.cell? ⟨w14.heap.size, 1, none⟩ = some (.slice AH ys.length cH) := cellKeep hb (by simp [go_sem])
    replace T := Lib.hid (T.out.trans (B.mono T.out.size))
    clear hb B
    go_wp2_with fail
    refine (heldSystem_c sk AG ys.length cG 1 _ OG.out.rd (by omega) (by omega) (by omega)).mono ?_
    rintro e w16 ⟨rfl, hb⟩
    have B := below_then (a := w15) (by repeat (first | exact Below.refl _ _ | refine Below.setCell ?_ (by simp) _ | refine Below.alloc ?_ (by simp <;> omega) _ | refine below_drewN ?_ _ | refine Below.drew ?_)) hb
    have S16 := Lib.hid (show w15.heap.size + 0 ≤ w16.heap.size by have h := hb.size; (try simp at h); omega)
    replace u0 : w16.cell? ⟨w3.heap.size, 0, none⟩ = some (.int .i64 sk) := cellKeep B u0
    replace u1 : w16.cell? ⟨w3.heap.size, 1, none⟩ = some (.slice AW ys.length cW) := cellKeep B u1
    replace g0 : w16.cell? ⟨w5.heap.size, 0, none⟩ = some (.int .i64 sk) := cellKeep B g0
    replace g1 : w16.cell? ⟨w5.heap.size, 1, none⟩ = some (.slice AG ys.length cG) := cellKeep B g1
    replace h0 : w16.cell? ⟨w14.heap.size, 0, none⟩ = some (.int .i64 sk) := cellKeep B h0
    replace h1 : w16.cell? ⟨w14.heap.size, 1, none⟩ = some (.slice AH ys.length cH) := cellKeep B h1
    replace RA := Lib.hid (RA.out.below B)
    replace OW := Lib.hid (OW.out.below B)
    replace OX := Lib.hid (OX.out.below B)
    replace OG := Lib.hid (OG.out.below B)
    replace OZ := Lib.hid (OZ.out.below B)
    replace OH := Lib.hid (OH.out.below B)
    replace T := Lib.hid (T.out.trans (B.mono T.out.size))
    clear hb B
    go_wp2_with fail
    go_ret
    exact ⟨rfl, T.out.trans ((show Below w16.heap.size w16 _ from (by repeat (first | exact Below.refl _ _ | refine Below.setCell ?_ (by simp) _ | refine Below.alloc ?_ (by simp <;> omega) _ | refine below_drewN ?_ _ | refine Below.drew ?_))).mono T.out.size)⟩

set_option maxRecDepth 100000 in
theorem lifted (os : Os) (started : os.Started) (H : Type) (enc : TypeId × Value → H) :
    ReturnsInHanded {} Try.checked os 11 .any (Rows.fnExactCompleteSpec.pre6 enc Try.prog Try.f11 Rows.fnExactCompleteRow.domain false) (Rows.fnExactCompleteSpec.post enc Try.prog Try.f11 false true false false) := by
  refine returnsInHanded_of_change_shaped (C := Try.checked) Try.own started (by kernel_rfl) Try.func11
    (ChangeSpec.witness6 (enc := enc) (C := Try.checked) false ⟨#[], #[.int .i64 0, .slice none 0 0], []⟩ 8 (by kernel_rfl) (by kernel_rfl) (by kernel_rfl) (by kernel_rfl)) ?_
  intro W base args ds gs before hval0 hW hcnd _ hsh _
  obtain ⟨m, hm⟩ := maxLen_of W hsh
  have hval : ∀ (j : Nat) t v, Try.f11.params[j]? = some t → args[j]? = some v → Value.okWide Try.prog W .any base t v := hval0
  have hW' := hW
  have hlt : ∀ x ∈ before, x.block < W.heap.size := fun x hx => hW.lt x hx
  obtain ⟨p, q, hA0, hV, rfl, hfz, hnd⟩ := hW
  have hA : DataW.TrodAll enc Try.prog W 0 (fun _ => true) true Try.f11.params.toList args.toList ds p := hA0
  rw [Try.params11] at hA hval
  obtain ⟨v0, v1, d0, d1, p0, p1, rfl, rfl, rfl, h0, h1⟩ := trodAll_two hA
  clear hA0 hval0 hfz hnd
  obtain ⟨n0, rfl, rfl, rfl, wf0⟩ := open_int Try.underlying3 (hval 0 3 v0 rfl rfl) h0
  have hn0 := intBounds wf0
  obtain ⟨A1, c1, rs1, rfl, hr1⟩ := openRules (hval 1 22 v1 rfl rfl) h1
  refine (walk m n0 A1 c1 rs1 W hn0 hr1 hm).mono fun e W' ⟨he, hg⟩ => ?_
  subst he
  exact ⟨_, rfl, lawPost Try.laidOut (by kernel_rfl) (by kernel_rfl) Try.boolType rfl rfl hW' hg⟩

theorem proved : Rows.FnExactCompleteSaid :=
  OpenClaim.holds_of_wide 11 Try.f11 rfl rfl rfl rfl rfl rfl rfl ⟨rfl, rfl, rfl, rfl, rfl⟩ rfl rfl rfl rfl rfl (by kernel_rfl) Try.func11 (by kernel_rfl)
    (of_decide_eq_true (by kernel_rfl)) (by unfold Func.isWrapper; first | (rw [if_pos (by decide +kernel)]; kernel_rfl) | (rw [if_neg (by decide +kernel)]; exact ⟨rfl, rfl⟩))
    (fun os started H enc _ => lifted os started H enc)
#print axioms proved
end Go.Proofs.Ytlohpphmamapeaa.lawExactComplete
