/-
  The law FnExactTurnWork returns true for every input, and leaves its arguments as they were.
  Conditions: none.
-/
import Derived.HandedShaped
import Derived.Test.YtlohpphmamapeaaMt1
import Derived.Test.YtlohpphmamapeaaMt4
import Derived.Test.YtlohpphmamapeaaMt5
namespace Go.Proofs.Ytlohpphmamapeaa.lawExactTurnWork
open Go.ChangeShapes Go.WideShapes Go.ChangeAt Go.RowKit
set_option linter.unusedVariables false

set_option maxRecDepth 100000 in
set_option maxHeartbeats 16000000 in
theorem walk (m : Int) (k : Int) (A : Option Addr) (c : Nat) (rs : List M.Rule) (B0 : Option Addr) (d : Nat) (qs : List M.Rule) (t : Int) (w : World) (hr : (rs.length ≤ 9223372036854775807 ∧ Rd w 2 A rs.length (ruls rs) ∧ ∀ r ∈ rs, r.left.length ≤ 9223372036854775807 ∧ r.right.length ≤ 9223372036854775807) ∧ (qs.length ≤ 9223372036854775807 ∧ Rd w 2 B0 qs.length (ruls qs) ∧ ∀ r ∈ qs, r.left.length ≤ 9223372036854775807 ∧ r.right.length ≤ 9223372036854775807)) (hm : w.cell? ⟨0, 0, none⟩ = some (.int .i64 m)) :
    Calls Try.prog 10 #[.agg #[.int .i64 k, .slice A rs.length c, .slice B0 qs.length d, .int .i64 t]] w fun e w' => e = .returned (.bool true) ∧ Below w.heap.size w w' := by
  obtain ⟨⟨hl, hA, hs⟩, hql, hB, hqs⟩ := hr
  have RA := Lib.hid hA
  have RB := Lib.hid hB
  have UA := Lib.hid (hA.blkIn (by decide))
  have UB := Lib.hid (hB.blkIn (by decide))
  have HM := Lib.hid hm
  clear hm
  have h1 := Lib.hid (fun W h h' => szWork_c k A c rs B0 d qs t 1048576 W h h' hl hql hs hqs (by omega) (by omega))
  by_cases hz : M.szRules rs 1048576 < 0
  case pos =>
    rw [if_pos hz] at h1
    clear hs hA hz hqs hB
    go_enter Try.func10, Try.ntmps10
    go_wp2_with fail
    refine (h1.out _ (RA.out.below (by repeat (first | exact Below.refl _ _ | refine Below.setCell ?_ (by simp) _ | refine Below.alloc ?_ (by simp <;> omega) _ | refine below_drewN ?_ _ | refine Below.drew ?_))) (RB.out.below (by repeat (first | exact Below.refl _ _ | refine Below.setCell ?_ (by simp) _ | refine Below.alloc ?_ (by simp <;> omega) _ | refine below_drewN ?_ _ | refine Below.drew ?_)))).mono ?_
    rintro e w1 ⟨rfl, hb⟩
    have B := below_then (a := w) (by repeat (first | exact Below.refl _ _ | refine Below.setCell ?_ (by simp) _ | refine Below.alloc ?_ (by simp <;> omega) _ | refine below_drewN ?_ _ | refine Below.drew ?_)) hb
    have S1 := Lib.hid (show w.heap.size + 1 ≤ w1.heap.size by have h := hb.size; (try simp at h); omega)
    replace RA := Lib.hid (RA.out.below B)
    replace RB := Lib.hid (RB.out.below B)
    have q0 : w1.cell? ⟨w.heap.size, 0, none⟩ = some (.int .i64 k) := cellKeep hb (by simp [go_sem])
    have q1 : w1.cell? ⟨w.heap.size, 1, none⟩ = some (.slice A rs.length c) := cellKeep hb (by simp [go_sem])
    have q2 : w1.cell? ⟨w.heap.size, 2, none⟩ = some (.slice B0 qs.length d) := cellKeep hb (by simp [go_sem])
    have q3 : w1.cell? ⟨w.heap.size, 3, none⟩ = some (.int .i64 t) := cellKeep hb (by simp [go_sem])
    have T := Lib.hid B
    clear hb B
    go_wp2_with fail
    go_ret
    exact ⟨rfl, T.out.trans ((show Below w1.heap.size w1 _ from (by repeat (first | exact Below.refl _ _ | refine Below.setCell ?_ (by simp) _ | refine Below.alloc ?_ (by simp <;> omega) _ | refine below_drewN ?_ _ | refine Below.drew ?_))).mono T.out.size)⟩
  case neg =>
  rw [if_neg hz] at h1
  obtain ⟨hl2, hs2, hle⟩ := M.szRules_ok hz
  by_cases hz2 : M.szRules qs (M.szRules rs 1048576) < 0
  case pos =>
    rw [if_pos hz2] at h1
    clear hs hA hz hqs hB hs2 hl2 hle hz2
    go_enter Try.func10, Try.ntmps10
    go_wp2_with fail
    refine (h1.out _ (RA.out.below (by repeat (first | exact Below.refl _ _ | refine Below.setCell ?_ (by simp) _ | refine Below.alloc ?_ (by simp <;> omega) _ | refine below_drewN ?_ _ | refine Below.drew ?_))) (RB.out.below (by repeat (first | exact Below.refl _ _ | refine Below.setCell ?_ (by simp) _ | refine Below.alloc ?_ (by simp <;> omega) _ | refine below_drewN ?_ _ | refine Below.drew ?_)))).mono ?_
    rintro e w1 ⟨rfl, hb⟩
    have B := below_then (a := w) (by repeat (first | exact Below.refl _ _ | refine Below.setCell ?_ (by simp) _ | refine Below.alloc ?_ (by simp <;> omega) _ | refine below_drewN ?_ _ | refine Below.drew ?_)) hb
    have S1 := Lib.hid (show w.heap.size + 1 ≤ w1.heap.size by have h := hb.size; (try simp at h); omega)
    replace RA := Lib.hid (RA.out.below B)
    replace RB := Lib.hid (RB.out.below B)
    have q0 : w1.cell? ⟨w.heap.size, 0, none⟩ = some (.int .i64 k) := cellKeep hb (by simp [go_sem])
    have q1 : w1.cell? ⟨w.heap.size, 1, none⟩ = some (.slice A rs.length c) := cellKeep hb (by simp [go_sem])
    have q2 : w1.cell? ⟨w.heap.size, 2, none⟩ = some (.slice B0 qs.length d) := cellKeep hb (by simp [go_sem])
    have q3 : w1.cell? ⟨w.heap.size, 3, none⟩ = some (.int .i64 t) := cellKeep hb (by simp [go_sem])
    have T := Lib.hid B
    clear hb B
    go_wp2_with fail
    go_ret
    exact ⟨rfl, T.out.trans ((show Below w1.heap.size w1 _ from (by repeat (first | exact Below.refl _ _ | refine Below.setCell ?_ (by simp) _ | refine Below.alloc ?_ (by simp <;> omega) _ | refine below_drewN ?_ _ | refine Below.drew ?_))).mono T.out.size)⟩
  case neg =>
  rw [if_neg hz2] at h1
  obtain ⟨hq2, hqs2, hqle⟩ := M.szRules_ok hz2
  generalize M.szRules qs (M.szRules rs 1048576) = y at *
  generalize M.szRules rs 1048576 = z at *
  have hl3 : rs.length ≤ 1048576 := by omega
  have hql3 : qs.length ≤ 1048576 := by omega
  have hs3 : ∀ r ∈ rs, r.left.length ≤ 1048576 ∧ r.right.length ≤ 1048576 := fun r hr => by have := hs2 r hr; omega
  have hqs3 : ∀ r ∈ qs, r.left.length ≤ 1048576 ∧ r.right.length ≤ 1048576 := fun r hr => by have := hqs2 r hr; omega
  have h2 := Lib.hid (fun W h h' => toWork_s k A c rs B0 d qs t W h h' hl3 hql3)
  have h3 := Lib.hid (fun W A c B d h h' => spec_TurnWork_c k A c rs B d qs t W h h' hl3 hs3 hql3 hqs3)
  have h4 := Lib.hid (fun W A c B h h' hm => impl_TurnWork_c m k A c rs B qs.length qs t W h h' (Nat.le_refl _) hl3 hs3 hql3 hqs3 hm)
  obtain ⟨hy, hv⟩ := turn_size (k := k) (t := t) hl3 hql3
  generalize M.turn k rs qs t = X at *
  obtain ⟨ys, vs, tt, code⟩ := X
  unfold RetTurn at h3 h4
  simp only at h3 h4 hy hv
  have hk0 : ¬ ((1 : Int) + (rs.length : Int) * 2 + (qs.length : Int) * 2 < 0) := by omega
  have hk1 : ¬ ((1 : Int) + (ys.length : Int) * 2 + (vs.length : Int) * 2 < 0) := by omega
  clear hs hA hqs hB hs2 hqs2 hs3 hqs3 hz hl2 hle hq2 hqle hl hql
  go_enter Try.func10, Try.ntmps10
  go_wp2_with fail
  refine (h1.out _ (RA.out.below (by repeat (first | exact Below.refl _ _ | refine Below.setCell ?_ (by simp) _ | refine Below.alloc ?_ (by simp <;> omega) _ | refine below_drewN ?_ _ | refine Below.drew ?_))) (RB.out.below (by repeat (first | exact Below.refl _ _ | refine Below.setCell ?_ (by simp) _ | refine Below.alloc ?_ (by simp <;> omega) _ | refine below_drewN ?_ _ | refine Below.drew ?_)))).mono ?_
  rintro e w1 ⟨rfl, hb⟩
  have B := below_then (a := w) (by repeat (first | exact Below.refl _ _ | refine Below.setCell ?_ (by simp) _ | refine Below.alloc ?_ (by simp <;> omega) _ | refine below_drewN ?_ _ | refine Below.drew ?_)) hb
  have S1 := Lib.hid (show w.heap.size + 1 ≤ w1.heap.size by have h := hb.size; (try simp at h); omega)
  replace RA := Lib.hid (RA.out.below B)
  replace RB := Lib.hid (RB.out.below B)
  have q0 : w1.cell? ⟨w.heap.size, 0, none⟩ = some (.int .i64 k) := cellKeep hb (by simp [go_sem])
  have q1 : w1.cell? ⟨w.heap.size, 1, none⟩ = some (.slice A rs.length c) := cellKeep hb (by simp [go_sem])
  have q2 : w1.cell? ⟨w.heap.size, 2, none⟩ = some (.slice B0 qs.length d) := cellKeep hb (by simp [go_sem])
  have q3 : w1.cell? ⟨w.heap.size, 3, none⟩ = some (.int .i64 t) := cellKeep hb (by simp [go_sem])
  have T := Lib.hid B
  clear hb B
  go_wp2_with fail
  refine (h2.out _ (RA.out.below (by repeat (first | exact Below.refl _ _ | refine Below.setCell ?_ (by simp) _ | refine Below.alloc ?_ (by simp <;> omega) _ | refine below_drewN ?_ _ | refine Below.drew ?_))) (RB.out.below (by repeat (first | exact Below.refl _ _ | refine Below.setCell ?_ (by simp) _ | refine Below.alloc ?_ (by simp <;> omega) _ | refine below_drewN ?_ _ | refine Below.drew ?_)))).mono ?_
  rintro e w2 ⟨AS, cS, BS, rfl, hownA, hownB, hap, hb⟩
  have B := below_then (a := w1) (by repeat (first | exact Below.refl _ _ | refine Below.setCell ?_ (by simp) _ | refine Below.alloc ?_ (by simp <;> omega) _ | refine below_drewN ?_ _ | refine Below.drew ?_)) hb
  have S2 := Lib.hid (show w1.heap.size + 0 ≤ w2.heap.size by have h := hb.size; (try simp at h); omega)
  replace q0 : w2.cell? ⟨w.heap.size, 0, none⟩ = some (.int .i64 k) := cellKeep B q0
  replace q1 : w2.cell? ⟨w.heap.size, 1, none⟩ = some (.slice A rs.length c) := cellKeep B q1
  replace q2 : w2.cell? ⟨w.heap.size, 2, none⟩ = some (.slice B0 qs.length d) := cellKeep B q2
  replace q3 : w2.cell? ⟨w.heap.size, 3, none⟩ = some (.int .i64 t) := cellKeep B q3
  replace RA := Lib.hid (RA.out.below B)
  replace RB := Lib.hid (RB.out.below B)
  have OSA := Lib.hid ((hownA).mono (base' := w1.heap.size) (by simp <;> omega))
  have USA := Lib.hid OSA.out.blkIn
  clear hownA
  have OSB := Lib.hid ((hownB).mono (base' := w1.heap.size) (by simp <;> omega))
  have USB := Lib.hid OSB.out.blkIn
  clear hownB
  replace T := Lib.hid (T.out.trans (B.mono T.out.size))
  clear hb B
  go_wp2_with fail
  have PS := Lib.hid hap
  clear hap
  refine (h3.out _ _ _ _ _ (OSA.out.rd.below (by repeat (first | exact Below.refl _ _ | refine Below.setCell ?_ (by simp) _ | refine Below.alloc ?_ (by simp <;> omega) _ | refine below_drewN ?_ _ | refine Below.drew ?_))) (OSB.out.rd.below (by repeat (first | exact Below.refl _ _ | refine Below.setCell ?_ (by simp) _ | refine Below.alloc ?_ (by simp <;> omega) _ | refine below_drewN ?_ _ | refine Below.drew ?_)))).mono ?_
  rintro e w3 ⟨AW, cW, BW, dW, rfl, hownA, hownB, hap, hb⟩
  replace hap := apart_blk hap hownA.2.1 hownB.2.1
  have B := below_then (a := w2) (by repeat (first | exact Below.refl _ _ | refine Below.setCell ?_ (by simp) _ | refine Below.alloc ?_ (by simp <;> omega) _ | refine below_drewN ?_ _ | refine Below.drew ?_)) hb
  have S3 := Lib.hid (show w2.heap.size + 0 ≤ w3.heap.size by have h := hb.size; (try simp at h); omega)
  replace q0 : w3.cell? ⟨w.heap.size, 0, none⟩ = some (.int .i64 k) := cellKeep B q0
  replace q1 : w3.cell? ⟨w.heap.size, 1, none⟩ = some (.slice A rs.length c) := cellKeep B q1
  replace q2 : w3.cell? ⟨w.heap.size, 2, none⟩ = some (.slice B0 qs.length d) := cellKeep B q2
  replace q3 : w3.cell? ⟨w.heap.size, 3, none⟩ = some (.int .i64 t) := cellKeep B q3
  replace RA := Lib.hid (RA.out.below B)
  replace RB := Lib.hid (RB.out.below B)
  replace OSA := Lib.hid (OSA.out.below B)
  replace OSB := Lib.hid (OSB.out.below B)
  have OWA := Lib.hid ((hownA.own).mono (base' := w2.heap.size) (by simp <;> omega))
  have UWA := Lib.hid OWA.out.blkIn
  clear hownA
  have OWB := Lib.hid ((hownB.own).mono (base' := w2.heap.size) (by simp <;> omega))
  have UWB := Lib.hid OWB.out.blkIn
  clear hownB
  replace T := Lib.hid (T.out.trans (B.mono T.out.size))
  clear hb B
  have q0_1 := allocKeep1 q0
  have q1_1 := allocKeep1 q1
  have q2_1 := allocKeep1 q2
  have q3_1 := allocKeep1 q3
  go_wp2_with fail
  clear q0_1 q1_1 q2_1 q3_1
  have PW := Lib.hid hap
  clear hap
  refine (h2.out _ (RA.out.below (by repeat (first | exact Below.refl _ _ | refine Below.setCell ?_ (by simp) _ | refine Below.alloc ?_ (by simp <;> omega) _ | refine below_drewN ?_ _ | refine Below.drew ?_))) (RB.out.below (by repeat (first | exact Below.refl _ _ | refine Below.setCell ?_ (by simp) _ | refine Below.alloc ?_ (by simp <;> omega) _ | refine below_drewN ?_ _ | refine Below.drew ?_)))).mono ?_
  rintro e w4 ⟨AX, cX, BX, rfl, hownA, hownB, hap, hb⟩
  have B := below_then (a := w3) (by repeat (first | exact Below.refl _ _ | refine Below.setCell ?_ (by simp) _ | refine Below.alloc ?_ (by simp <;> omega) _ | refine below_drewN ?_ _ | refine Below.drew ?_)) hb
  have S4 := Lib.hid (show w3.heap.size + 1 ≤ w4.heap.size by have h := hb.size; (try simp at h); omega)
  replace q0 : w4.cell? ⟨w.heap.size, 0, none⟩ = some (.int .i64 k) := cellKeep B q0
  replace q1 : w4.cell? ⟨w.heap.size, 1, none⟩ = some (.slice A rs.length c) := cellKeep B q1
  replace q2 : w4.cell? ⟨w.heap.size, 2, none⟩ = some (.slice B0 qs.length d) := cellKeep B q2
  replace q3 : w4.cell? ⟨w.heap.size, 3, none⟩ = some (.int .i64 t) := cellKeep B q3
  replace RA := Lib.hid (RA.out.below B)
  replace RB := Lib.hid (RB.out.below B)
  replace OWA := Lib.hid (OWA.out.below B)
  replace OWB := Lib.hid (OWB.out.below B)
  have u0 : w4.cell? ⟨w3.heap.size, 0, none⟩ = some (.int .i64 k) := cellKeep hb (by simp [go_sem])
  have u1 : w4.cell? ⟨w3.heap.size, 1, none⟩ = some (.slice AW ys.length cW) := cellKeep hb (by simp [go_sem])
  have u2 : w4.cell? ⟨w3.heap.size, 2, none⟩ = some (.slice BW vs.length dW) := cellKeep hb (by simp [go_sem])
  have u3 : w4.cell? ⟨w3.heap.size, 3, none⟩ = some (.int .i64 tt) := cellKeep hb (by simp [go_sem])
  have OXA := Lib.hid ((hownA).mono (base' := w3.heap.size + 1) (by simp <;> omega))
  have UXA := Lib.hid OXA.out.blkIn
  clear hownA
  have OXB := Lib.hid ((hownB).mono (base' := w3.heap.size + 1) (by simp <;> omega))
  have UXB := Lib.hid OXB.out.blkIn
  clear hownB
  replace T := Lib.hid (T.out.trans (B.mono T.out.size))
  clear hb B
  go_wp2_with fail
  have PX := Lib.hid hap
  clear hap
  refine (h4.out _ _ _ _ (OXA.out.rd.below (by repeat (first | exact Below.refl _ _ | refine Below.setCell ?_ (by simp) _ | refine Below.alloc ?_ (by simp <;> omega) _ | refine below_drewN ?_ _ | refine Below.drew ?_))) (OXB.out.rd.below (by repeat (first | exact Below.refl _ _ | refine Below.setCell ?_ (by simp) _ | refine Below.alloc ?_ (by simp <;> omega) _ | refine below_drewN ?_ _ | refine Below.drew ?_))) (cellKeep (below_then T.out (by repeat (first | exact Below.refl _ _ | refine Below.setCell ?_ (by simp) _ | refine Below.alloc ?_ (by simp <;> omega) _ | refine below_drewN ?_ _ | refine Below.drew ?_))) HM.out)).mono ?_
  rintro e w5 ⟨AG, cG, BG, dG, rfl, hownA, hownB, hap, hb⟩
  replace hap := apart_blk hap hownA.2.1 hownB.2.1
  have B := below_then (a := w4) (by repeat (first | exact Below.refl _ _ | refine Below.setCell ?_ (by simp) _ | refine Below.alloc ?_ (by simp <;> omega) _ | refine below_drewN ?_ _ | refine Below.drew ?_)) hb
  have S5 := Lib.hid (show w4.heap.size + 1 ≤ w5.heap.size by have h := hb.size; (try simp at h); omega)
  replace q0 : w5.cell? ⟨w.heap.size, 0, none⟩ = some (.int .i64 k) := cellKeep B q0
  replace q1 : w5.cell? ⟨w.heap.size, 1, none⟩ = some (.slice A rs.length c) := cellKeep B q1
  replace q2 : w5.cell? ⟨w.heap.size, 2, none⟩ = some (.slice B0 qs.length d) := cellKeep B q2
  replace q3 : w5.cell? ⟨w.heap.size, 3, none⟩ = some (.int .i64 t) := cellKeep B q3
  replace u0 : w5.cell? ⟨w3.heap.size, 0, none⟩ = some (.int .i64 k) := cellKeep B u0
  replace u1 : w5.cell? ⟨w3.heap.size, 1, none⟩ = some (.slice AW ys.length cW) := cellKeep B u1
  replace u2 : w5.cell? ⟨w3.heap.size, 2, none⟩ = some (.slice BW vs.length dW) := cellKeep B u2
  replace u3 : w5.cell? ⟨w3.heap.size, 3, none⟩ = some (.int .i64 tt) := cellKeep B u3
  replace RA := Lib.hid (RA.out.below B)
  replace RB := Lib.hid (RB.out.below B)
  replace OWA := Lib.hid (OWA.out.below B)
  replace OWB := Lib.hid (OWB.out.below B)
  replace OXA := Lib.hid (OXA.out.below B)
  replace OXB := Lib.hid (OXB.out.below B)
  have x0 : w5.cell? ⟨w4.heap.size, 0, none⟩ = some (.int .i64 k) := cellKeep hb (by simp [go_sem])
  have x1 : w5.cell? ⟨w4.heap.size, 1, none⟩ = some (.slice AX rs.length cX) := cellKeep hb (by simp [go_sem])
  have x2 : w5.cell? ⟨w4.heap.size, 2, none⟩ = some (.slice BX qs.length qs.length) := cellKeep hb (by simp [go_sem])
  have x3 : w5.cell? ⟨w4.heap.size, 3, none⟩ = some (.int .i64 t) := cellKeep hb (by simp [go_sem])
  have OGA := Lib.hid ((hownA.own).mono (base' := w4.heap.size + 1) (by simp <;> omega))
  have UGA := Lib.hid OGA.out.blkIn
  clear hownA
  have OGB := Lib.hid ((hownB.own).mono (base' := w4.heap.size + 1) (by simp <;> omega))
  have UGB := Lib.hid OGB.out.blkIn
  clear hownB
  replace T := Lib.hid (T.out.trans (B.mono T.out.size))
  clear hb B
  have q0_1 := allocKeep1 q0
  have q1_1 := allocKeep1 q1
  have q2_1 := allocKeep1 q2
  have q3_1 := allocKeep1 q3
  have u0_1 := allocKeep1 u0
  have u1_1 := allocKeep1 u1
  have u2_1 := allocKeep1 u2
  have u3_1 := allocKeep1 u3
  have x0_1 := allocKeep1 x0
  have x1_1 := allocKeep1 x1
  have x2_1 := allocKeep1 x2
  have x3_1 := allocKeep1 x3
  go_wp2_with fail
  clear q0_1 q1_1 q2_1 q3_1 u0_1 u1_1 u2_1 u3_1 x0_1 x1_1 x2_1 x3_1
  have PG := Lib.hid hap
  clear hap
  refine (eqWork_t k _ _ ys _ _ vs tt _ _ _ _ _ (OGA.out.rd.below (by repeat (first | exact Below.refl _ _ | refine Below.setCell ?_ (by simp) _ | refine Below.alloc ?_ (by simp <;> omega) _ | refine below_drewN ?_ _ | refine Below.drew ?_))) (OGB.out.rd.below (by repeat (first | exact Below.refl _ _ | refine Below.setCell ?_ (by simp) _ | refine Below.alloc ?_ (by simp <;> omega) _ | refine below_drewN ?_ _ | refine Below.drew ?_))) (OWA.out.rd.below (by repeat (first | exact Below.refl _ _ | refine Below.setCell ?_ (by simp) _ | refine Below.alloc ?_ (by simp <;> omega) _ | refine below_drewN ?_ _ | refine Below.drew ?_))) (OWB.out.rd.below (by repeat (first | exact Below.refl _ _ | refine Below.setCell ?_ (by simp) _ | refine Below.alloc ?_ (by simp <;> omega) _ | refine below_drewN ?_ _ | refine Below.drew ?_))) (by omega) (by omega)).mono ?_
  rintro e w6 ⟨rfl, hb⟩
  have B := below_then (a := w5) (by repeat (first | exact Below.refl _ _ | refine Below.setCell ?_ (by simp) _ | refine Below.alloc ?_ (by simp <;> omega) _ | refine below_drewN ?_ _ | refine Below.drew ?_)) hb
  have S6 := Lib.hid (show w5.heap.size + 1 ≤ w6.heap.size by have h := hb.size; (try simp at h); omega)
  replace q0 : w6.cell? ⟨w.heap.size, 0, none⟩ = some (.int .i64 k) := cellKeep B q0
  replace q1 : w6.cell? ⟨w.heap.size, 1, none⟩ = some (.slice A rs.length c) := cellKeep B q1
  replace q2 : w6.cell? ⟨w.heap.size, 2, none⟩ = some (.slice B0 qs.length d) := cellKeep B q2
  replace q3 : w6.cell? ⟨w.heap.size, 3, none⟩ = some (.int .i64 t) := cellKeep B q3
  replace u0 : w6.cell? ⟨w3.heap.size, 0, none⟩ = some (.int .i64 k) := cellKeep B u0
  replace u1 : w6.cell? ⟨w3.heap.size, 1, none⟩ = some (.slice AW ys.length cW) := cellKeep B u1
  replace u2 : w6.cell? ⟨w3.heap.size, 2, none⟩ = some (.slice BW vs.length dW) := cellKeep B u2
  replace u3 : w6.cell? ⟨w3.heap.size, 3, none⟩ = some (.int .i64 tt) := cellKeep B u3
  replace x0 : w6.cell? ⟨w4.heap.size, 0, none⟩ = some (.int .i64 k) := cellKeep B x0
  replace x1 : w6.cell? ⟨w4.heap.size, 1, none⟩ = some (.slice AX rs.length cX) := cellKeep B x1
  replace x2 : w6.cell? ⟨w4.heap.size, 2, none⟩ = some (.slice BX qs.length qs.length) := cellKeep B x2
  replace x3 : w6.cell? ⟨w4.heap.size, 3, none⟩ = some (.int .i64 t) := cellKeep B x3
  replace RA := Lib.hid (RA.out.below B)
  replace RB := Lib.hid (RB.out.below B)
  replace OWA := Lib.hid (OWA.out.below B)
  replace OWB := Lib.hid (OWB.out.below B)
  replace OXA := Lib.hid (OXA.out.below B)
  replace OXB := Lib.hid (OXB.out.below B)
  replace OGA := Lib.hid (OGA.out.below B)
  replace OGB := Lib.hid (OGB.out.below B)
  have g0 : w6.cell? ⟨w5.heap.size, 0, none⟩ = some (.int .i64 k) := cellKeep hb (by simp [go_sem])
  have g1 : w6.cell? ⟨w5.heap.size, 1, none⟩ = some (.slice AG ys.length cG) := cellKeep hb (by simp [go_sem])
  have g2 : w6.cell? ⟨w5.heap.size, 2, none⟩ = some (.slice BG vs.length dG) := cellKeep hb (by simp [go_sem])
  have g3 : w6.cell? ⟨w5.heap.size, 3, none⟩ = some (.int .i64 tt) := cellKeep hb (by simp [go_sem])
  replace T := Lib.hid (T.out.trans (B.mono T.out.size))
  clear hb B
  go_wp2_with fail
  go_region_held3 (fun w' => w'.cell? ⟨w.heap.size, 0, none⟩ = some (.int .i64 k) ∧ w'.cell? ⟨w.heap.size, 1, none⟩ = some (.slice A rs.length c) ∧ w'.cell? ⟨w.heap.size, 2, none⟩ = some (.slice B0 qs.length d) ∧ w'.cell? ⟨w.heap.size, 3, none⟩ = some (.int .i64 t) ∧ w'.cell? ⟨w4.heap.size, 0, none⟩ = some (.int .i64 k) ∧ w'.cell? ⟨w4.heap.size, 1, none⟩ = some (.slice AX rs.length cX) ∧ w'.cell? ⟨w4.heap.size, 2, none⟩ = some (.slice BX qs.length qs.length) ∧ w'.cell? ⟨w4.heap.size, 3, none⟩ = some (.int .i64 t) ∧ Below w6.heap.size w6 w') (first | exact ⟨q0, q1, q2, q3, x0, x1, x2, x3, (by repeat (first | exact Below.refl _ _ | refine Below.setCell ?_ (by simp) _ | refine Below.alloc ?_ (by simp <;> omega) _ | refine below_drewN ?_ _ | refine Below.drew ?_))⟩ | assumption | exact held8 (by assumption) hba | exact held8 (by assumption) hbc) (first | (go_simp; go_at_call 43; refine (h2.out _ (RA.out.below (held8_below (by assumption))) (RB.out.below (held8_below (by assumption)))).mono ?_; rintro e wa ⟨AU, cU, BU, rfl, hownU, hownV, hapU, hba⟩) | (go_simp; go_at_call 45; refine (eqWork_t _ _ _ _ _ _ _ _ _ _ _ _ _ (OXA.out.rd.below (held8_below (by assumption))) (OXB.out.rd.below (held8_below (by assumption))) hownU.rd hownV.rd (by omega) (by omega)).mono ?_; rintro e w7 ⟨rfl, hbc⟩))
  all_goals
    have hS : w7.cell? ⟨w.heap.size, 0, none⟩ = some (.int .i64 k) ∧ w7.cell? ⟨w.heap.size, 1, none⟩ = some (.slice A rs.length c) ∧ w7.cell? ⟨w.heap.size, 2, none⟩ = some (.slice B0 qs.length d) ∧ w7.cell? ⟨w.heap.size, 3, none⟩ = some (.int .i64 t) ∧ w7.cell? ⟨w4.heap.size, 0, none⟩ = some (.int .i64 k) ∧ w7.cell? ⟨w4.heap.size, 1, none⟩ = some (.slice AX rs.length cX) ∧ w7.cell? ⟨w4.heap.size, 2, none⟩ = some (.slice BX qs.length qs.length) ∧ w7.cell? ⟨w4.heap.size, 3, none⟩ = some (.int .i64 t) ∧ Below w6.heap.size w6 w7 := by assumption
    have B := held8_below hS
    have S7 := Lib.hid (show w6.heap.size + 0 ≤ w7.heap.size by have h := B.size; (try simp at h); omega)
    replace q0 : w7.cell? ⟨w.heap.size, 0, none⟩ = some (.int .i64 k) := cellKeep B q0
    replace q1 : w7.cell? ⟨w.heap.size, 1, none⟩ = some (.slice A rs.length c) := cellKeep B q1
    replace q2 : w7.cell? ⟨w.heap.size, 2, none⟩ = some (.slice B0 qs.length d) := cellKeep B q2
    replace q3 : w7.cell? ⟨w.heap.size, 3, none⟩ = some (.int .i64 t) := cellKeep B q3
    replace u0 : w7.cell? ⟨w3.heap.size, 0, none⟩ = some (.int .i64 k) := cellKeep B u0
    replace u1 : w7.cell? ⟨w3.heap.size, 1, none⟩ = some (.slice AW ys.length cW) := cellKeep B u1
    replace u2 : w7.cell? ⟨w3.heap.size, 2, none⟩ = some (.slice BW vs.length dW) := cellKeep B u2
    replace u3 : w7.cell? ⟨w3.heap.size, 3, none⟩ = some (.int .i64 tt) := cellKeep B u3
    replace x0 : w7.cell? ⟨w4.heap.size, 0, none⟩ = some (.int .i64 k) := cellKeep B x0
    replace x1 : w7.cell? ⟨w4.heap.size, 1, none⟩ = some (.slice AX rs.length cX) := cellKeep B x1
    replace x2 : w7.cell? ⟨w4.heap.size, 2, none⟩ = some (.slice BX qs.length qs.length) := cellKeep B x2
    replace x3 : w7.cell? ⟨w4.heap.size, 3, none⟩ = some (.int .i64 t) := cellKeep B x3
    replace g0 : w7.cell? ⟨w5.heap.size, 0, none⟩ = some (.int .i64 k) := cellKeep B g0
    replace g1 : w7.cell? ⟨w5.heap.size, 1, none⟩ = some (.slice AG ys.length cG) := cellKeep B g1
    replace g2 : w7.cell? ⟨w5.heap.size, 2, none⟩ = some (.slice BG vs.length dG) := cellKeep B g2
    replace g3 : w7.cell? ⟨w5.heap.size, 3, none⟩ = some (.int .i64 tt) := cellKeep B g3
    replace RA := Lib.hid (RA.out.below B)
    replace RB := Lib.hid (RB.out.below B)
    replace OWA := Lib.hid (OWA.out.below B)
    replace OWB := Lib.hid (OWB.out.below B)
    replace OXA := Lib.hid (OXA.out.below B)
    replace OXB := Lib.hid (OXB.out.below B)
    replace OGA := Lib.hid (OGA.out.below B)
    replace OGB := Lib.hid (OGB.out.below B)
    replace T := Lib.hid (T.out.trans (B.mono T.out.size))
    clear hS B
    go_wp2_with fail
    refine (markWork_c k AX rs.length cX _ _ BX qs.length qs.length _ _ t _ OXA.out OXB.out PX.out (by omega) (by omega)).mono ?_
    rintro e w8 ⟨wm, rfl, hg1, hg2, ho1, ho2⟩
    have S8 := Lib.hid (show w7.heap.size + 0 ≤ w8.heap.size by have h := hg1.size; have h' := hg2.size; omega)
    replace q0 : w8.cell? ⟨w.heap.size, 0, none⟩ = some (.int .i64 k) := cellGrown hg2 (cellGrown hg1 q0 (blk_off UXA.out (by have h1 := S1.out; have h2 := S2.out; have h3 := S3.out; have h4 := S4.out; have h5 := S5.out; have h6 := S6.out; have h7 := S7.out; omega))) (blk_off UXB.out (by have h1 := S1.out; have h2 := S2.out; have h3 := S3.out; have h4 := S4.out; have h5 := S5.out; have h6 := S6.out; have h7 := S7.out; omega))
    replace q1 : w8.cell? ⟨w.heap.size, 1, none⟩ = some (.slice A rs.length c) := cellGrown hg2 (cellGrown hg1 q1 (blk_off UXA.out (by have h1 := S1.out; have h2 := S2.out; have h3 := S3.out; have h4 := S4.out; have h5 := S5.out; have h6 := S6.out; have h7 := S7.out; omega))) (blk_off UXB.out (by have h1 := S1.out; have h2 := S2.out; have h3 := S3.out; have h4 := S4.out; have h5 := S5.out; have h6 := S6.out; have h7 := S7.out; omega))
    replace q2 : w8.cell? ⟨w.heap.size, 2, none⟩ = some (.slice B0 qs.length d) := cellGrown hg2 (cellGrown hg1 q2 (blk_off UXA.out (by have h1 := S1.out; have h2 := S2.out; have h3 := S3.out; have h4 := S4.out; have h5 := S5.out; have h6 := S6.out; have h7 := S7.out; omega))) (blk_off UXB.out (by have h1 := S1.out; have h2 := S2.out; have h3 := S3.out; have h4 := S4.out; have h5 := S5.out; have h6 := S6.out; have h7 := S7.out; omega))
    replace q3 : w8.cell? ⟨w.heap.size, 3, none⟩ = some (.int .i64 t) := cellGrown hg2 (cellGrown hg1 q3 (blk_off UXA.out (by have h1 := S1.out; have h2 := S2.out; have h3 := S3.out; have h4 := S4.out; have h5 := S5.out; have h6 := S6.out; have h7 := S7.out; omega))) (blk_off UXB.out (by have h1 := S1.out; have h2 := S2.out; have h3 := S3.out; have h4 := S4.out; have h5 := S5.out; have h6 := S6.out; have h7 := S7.out; omega))
    replace u0 : w8.cell? ⟨w3.heap.size, 0, none⟩ = some (.int .i64 k) := cellGrown hg2 (cellGrown hg1 u0 (blk_off UXA.out (by have h1 := S1.out; have h2 := S2.out; have h3 := S3.out; have h4 := S4.out; have h5 := S5.out; have h6 := S6.out; have h7 := S7.out; omega))) (blk_off UXB.out (by have h1 := S1.out; have h2 := S2.out; have h3 := S3.out; have h4 := S4.out; have h5 := S5.out; have h6 := S6.out; have h7 := S7.out; omega))
    replace u1 : w8.cell? ⟨w3.heap.size, 1, none⟩ = some (.slice AW ys.length cW) := cellGrown hg2 (cellGrown hg1 u1 (blk_off UXA.out (by have h1 := S1.out; have h2 := S2.out; have h3 := S3.out; have h4 := S4.out; have h5 := S5.out; have h6 := S6.out; have h7 := S7.out; omega))) (blk_off UXB.out (by have h1 := S1.out; have h2 := S2.out; have h3 := S3.out; have h4 := S4.out; have h5 := S5.out; have h6 := S6.out; have h7 := S7.out; omega))
    replace u2 : w8.cell? ⟨w3.heap.size, 2, none⟩ = some (.slice BW vs.length dW) := cellGrown hg2 (cellGrown hg1 u2 (blk_off UXA.out (by have h1 := S1.out; have h2 := S2.out; have h3 := S3.out; have h4 := S4.out; have h5 := S5.out; have h6 := S6.out; have h7 := S7.out; omega))) (blk_off UXB.out (by have h1 := S1.out; have h2 := S2.out; have h3 := S3.out; have h4 := S4.out; have h5 := S5.out; have h6 := S6.out; have h7 := S7.out; omega))
    replace u3 : w8.cell? ⟨w3.heap.size, 3, none⟩ = some (.int .i64 tt) := cellGrown hg2 (cellGrown hg1 u3 (blk_off UXA.out (by have h1 := S1.out; have h2 := S2.out; have h3 := S3.out; have h4 := S4.out; have h5 := S5.out; have h6 := S6.out; have h7 := S7.out; omega))) (blk_off UXB.out (by have h1 := S1.out; have h2 := S2.out; have h3 := S3.out; have h4 := S4.out; have h5 := S5.out; have h6 := S6.out; have h7 := S7.out; omega))
    replace x0 : w8.cell? ⟨w4.heap.size, 0, none⟩ = some (.int .i64 k) := cellGrown hg2 (cellGrown hg1 x0 (blk_off UXA.out (by have h1 := S1.out; have h2 := S2.out; have h3 := S3.out; have h4 := S4.out; have h5 := S5.out; have h6 := S6.out; have h7 := S7.out; omega))) (blk_off UXB.out (by have h1 := S1.out; have h2 := S2.out; have h3 := S3.out; have h4 := S4.out; have h5 := S5.out; have h6 := S6.out; have h7 := S7.out; omega))
    replace x1 : w8.cell? ⟨w4.heap.size, 1, none⟩ = some (.slice AX rs.length cX) := cellGrown hg2 (cellGrown hg1 x1 (blk_off UXA.out (by have h1 := S1.out; have h2 := S2.out; have h3 := S3.out; have h4 := S4.out; have h5 := S5.out; have h6 := S6.out; have h7 := S7.out; omega))) (blk_off UXB.out (by have h1 := S1.out; have h2 := S2.out; have h3 := S3.out; have h4 := S4.out; have h5 := S5.out; have h6 := S6.out; have h7 := S7.out; omega))
    replace x2 : w8.cell? ⟨w4.heap.size, 2, none⟩ = some (.slice BX qs.length qs.length) := cellGrown hg2 (cellGrown hg1 x2 (blk_off UXA.out (by have h1 := S1.out; have h2 := S2.out; have h3 := S3.out; have h4 := S4.out; have h5 := S5.out; have h6 := S6.out; have h7 := S7.out; omega))) (blk_off UXB.out (by have h1 := S1.out; have h2 := S2.out; have h3 := S3.out; have h4 := S4.out; have h5 := S5.out; have h6 := S6.out; have h7 := S7.out; omega))
    replace x3 : w8.cell? ⟨w4.heap.size, 3, none⟩ = some (.int .i64 t) := cellGrown hg2 (cellGrown hg1 x3 (blk_off UXA.out (by have h1 := S1.out; have h2 := S2.out; have h3 := S3.out; have h4 := S4.out; have h5 := S5.out; have h6 := S6.out; have h7 := S7.out; omega))) (blk_off UXB.out (by have h1 := S1.out; have h2 := S2.out; have h3 := S3.out; have h4 := S4.out; have h5 := S5.out; have h6 := S6.out; have h7 := S7.out; omega))
    replace g0 : w8.cell? ⟨w5.heap.size, 0, none⟩ = some (.int .i64 k) := cellGrown hg2 (cellGrown hg1 g0 (blk_off UXA.out (by have h1 := S1.out; have h2 := S2.out; have h3 := S3.out; have h4 := S4.out; have h5 := S5.out; have h6 := S6.out; have h7 := S7.out; omega))) (blk_off UXB.out (by have h1 := S1.out; have h2 := S2.out; have h3 := S3.out; have h4 := S4.out; have h5 := S5.out; have h6 := S6.out; have h7 := S7.out; omega))
    replace g1 : w8.cell? ⟨w5.heap.size, 1, none⟩ = some (.slice AG ys.length cG) := cellGrown hg2 (cellGrown hg1 g1 (blk_off UXA.out (by have h1 := S1.out; have h2 := S2.out; have h3 := S3.out; have h4 := S4.out; have h5 := S5.out; have h6 := S6.out; have h7 := S7.out; omega))) (blk_off UXB.out (by have h1 := S1.out; have h2 := S2.out; have h3 := S3.out; have h4 := S4.out; have h5 := S5.out; have h6 := S6.out; have h7 := S7.out; omega))
    replace g2 : w8.cell? ⟨w5.heap.size, 2, none⟩ = some (.slice BG vs.length dG) := cellGrown hg2 (cellGrown hg1 g2 (blk_off UXA.out (by have h1 := S1.out; have h2 := S2.out; have h3 := S3.out; have h4 := S4.out; have h5 := S5.out; have h6 := S6.out; have h7 := S7.out; omega))) (blk_off UXB.out (by have h1 := S1.out; have h2 := S2.out; have h3 := S3.out; have h4 := S4.out; have h5 := S5.out; have h6 := S6.out; have h7 := S7.out; omega))
    replace g3 : w8.cell? ⟨w5.heap.size, 3, none⟩ = some (.int .i64 tt) := cellGrown hg2 (cellGrown hg1 g3 (blk_off UXA.out (by have h1 := S1.out; have h2 := S2.out; have h3 := S3.out; have h4 := S4.out; have h5 := S5.out; have h6 := S6.out; have h7 := S7.out; omega))) (blk_off UXB.out (by have h1 := S1.out; have h2 := S2.out; have h3 := S3.out; have h4 := S4.out; have h5 := S5.out; have h6 := S6.out; have h7 := S7.out; omega))
    replace RA := Lib.hid ((RA.out.grown' hg1 (blk_ne UA.out UXA.out (by have h1 := S1.out; have h2 := S2.out; have h3 := S3.out; have h4 := S4.out; have h5 := S5.out; have h6 := S6.out; have h7 := S7.out; omega))).grown' hg2 (blk_ne UA.out UXB.out (by have h1 := S1.out; have h2 := S2.out; have h3 := S3.out; have h4 := S4.out; have h5 := S5.out; have h6 := S6.out; have h7 := S7.out; omega)))
    replace RB := Lib.hid ((RB.out.grown' hg1 (blk_ne UB.out UXA.out (by have h1 := S1.out; have h2 := S2.out; have h3 := S3.out; have h4 := S4.out; have h5 := S5.out; have h6 := S6.out; have h7 := S7.out; omega))).grown' hg2 (blk_ne UB.out UXB.out (by have h1 := S1.out; have h2 := S2.out; have h3 := S3.out; have h4 := S4.out; have h5 := S5.out; have h6 := S6.out; have h7 := S7.out; omega)))
    replace OWA := Lib.hid ((OWA.out.grown hg1 (blk_ne UWA.out UXA.out (by have h1 := S1.out; have h2 := S2.out; have h3 := S3.out; have h4 := S4.out; have h5 := S5.out; have h6 := S6.out; have h7 := S7.out; omega))).grown hg2 (blk_ne UWA.out UXB.out (by have h1 := S1.out; have h2 := S2.out; have h3 := S3.out; have h4 := S4.out; have h5 := S5.out; have h6 := S6.out; have h7 := S7.out; omega)))
    replace OWB := Lib.hid ((OWB.out.grown hg1 (blk_ne UWB.out UXA.out (by have h1 := S1.out; have h2 := S2.out; have h3 := S3.out; have h4 := S4.out; have h5 := S5.out; have h6 := S6.out; have h7 := S7.out; omega))).grown hg2 (blk_ne UWB.out UXB.out (by have h1 := S1.out; have h2 := S2.out; have h3 := S3.out; have h4 := S4.out; have h5 := S5.out; have h6 := S6.out; have h7 := S7.out; omega)))
    replace OGA := Lib.hid ((OGA.out.grown hg1 (blk_ne UGA.out UXA.out (by have h1 := S1.out; have h2 := S2.out; have h3 := S3.out; have h4 := S4.out; have h5 := S5.out; have h6 := S6.out; have h7 := S7.out; omega))).grown hg2 (blk_ne UGA.out UXB.out (by have h1 := S1.out; have h2 := S2.out; have h3 := S3.out; have h4 := S4.out; have h5 := S5.out; have h6 := S6.out; have h7 := S7.out; omega)))
    replace OGB := Lib.hid ((OGB.out.grown hg1 (blk_ne UGB.out UXA.out (by have h1 := S1.out; have h2 := S2.out; have h3 := S3.out; have h4 := S4.out; have h5 := S5.out; have h6 := S6.out; have h7 := S7.out; omega))).grown hg2 (blk_ne UGB.out UXB.out (by have h1 := S1.out; have h2 := S2.out; have h3 := S3.out; have h4 := S4.out; have h5 := S5.out; have h6 := S6.out; have h7 := S7.out; omega)))
    replace OXA := Lib.hid ho1
    replace OXB := Lib.hid ho2
    have T' := Lib.hid (below_grown T.out T.out.size hg1 UXA.out (by have h1 := S1.out; have h2 := S2.out; have h3 := S3.out; have h4 := S4.out; have h5 := S5.out; have h6 := S6.out; have h7 := S7.out; omega))
    replace T := Lib.hid (below_grown T'.out T'.out.size hg2 UXB.out (by have h1 := S1.out; have h2 := S2.out; have h3 := S3.out; have h4 := S4.out; have h5 := S5.out; have h6 := S6.out; have h7 := S7.out; omega))
    clear ho1 ho2 hg1 hg2 T'
    go_wp2_with fail
    refine (eqWork_t k _ _ ys _ _ vs tt _ _ _ _ _ (OGA.out.rd.below (by repeat (first | exact Below.refl _ _ | refine Below.setCell ?_ (by simp) _ | refine Below.alloc ?_ (by simp <;> omega) _ | refine below_drewN ?_ _ | refine Below.drew ?_))) (OGB.out.rd.below (by repeat (first | exact Below.refl _ _ | refine Below.setCell ?_ (by simp) _ | refine Below.alloc ?_ (by simp <;> omega) _ | refine below_drewN ?_ _ | refine Below.drew ?_))) (OWA.out.rd.below (by repeat (first | exact Below.refl _ _ | refine Below.setCell ?_ (by simp) _ | refine Below.alloc ?_ (by simp <;> omega) _ | refine below_drewN ?_ _ | refine Below.drew ?_))) (OWB.out.rd.below (by repeat (first | exact Below.refl _ _ | refine Below.setCell ?_ (by simp) _ | refine Below.alloc ?_ (by simp <;> omega) _ | refine below_drewN ?_ _ | refine Below.drew ?_))) (by omega) (by omega)).mono ?_
    rintro e w9 ⟨rfl, hb⟩
    have B := below_then (a := w8) (by repeat (first | exact Below.refl _ _ | refine Below.setCell ?_ (by simp) _ | refine Below.alloc ?_ (by simp <;> omega) _ | refine below_drewN ?_ _ | refine Below.drew ?_)) hb
    have S9 := Lib.hid (show w8.heap.size + 0 ≤ w9.heap.size by have h := hb.size; (try simp at h); omega)
    replace q0 : w9.cell? ⟨w.heap.size, 0, none⟩ = some (.int .i64 k) := cellKeep B q0
    replace q1 : w9.cell? ⟨w.heap.size, 1, none⟩ = some (.slice A rs.length c) := cellKeep B q1
    replace q2 : w9.cell? ⟨w.heap.size, 2, none⟩ = some (.slice B0 qs.length d) := cellKeep B q2
    replace q3 : w9.cell? ⟨w.heap.size, 3, none⟩ = some (.int .i64 t) := cellKeep B q3
    replace u0 : w9.cell? ⟨w3.heap.size, 0, none⟩ = some (.int .i64 k) := cellKeep B u0
    replace u1 : w9.cell? ⟨w3.heap.size, 1, none⟩ = some (.slice AW ys.length cW) := cellKeep B u1
    replace u2 : w9.cell? ⟨w3.heap.size, 2, none⟩ = some (.slice BW vs.length dW) := cellKeep B u2
    replace u3 : w9.cell? ⟨w3.heap.size, 3, none⟩ = some (.int .i64 tt) := cellKeep B u3
    replace x0 : w9.cell? ⟨w4.heap.size, 0, none⟩ = some (.int .i64 k) := cellKeep B x0
    replace x1 : w9.cell? ⟨w4.heap.size, 1, none⟩ = some (.slice AX rs.length cX) := cellKeep B x1
    replace x2 : w9.cell? ⟨w4.heap.size, 2, none⟩ = some (.slice BX qs.length qs.length) := cellKeep B x2
    replace x3 : w9.cell? ⟨w4.heap.size, 3, none⟩ = some (.int .i64 t) := cellKeep B x3
    replace g0 : w9.cell? ⟨w5.heap.size, 0, none⟩ = some (.int .i64 k) := cellKeep B g0
    replace g1 : w9.cell? ⟨w5.heap.size, 1, none⟩ = some (.slice AG ys.length cG) := cellKeep B g1
    replace g2 : w9.cell? ⟨w5.heap.size, 2, none⟩ = some (.slice BG vs.length dG) := cellKeep B g2
    replace g3 : w9.cell? ⟨w5.heap.size, 3, none⟩ = some (.int .i64 tt) := cellKeep B g3
    replace RA := Lib.hid (RA.out.below B)
    replace RB := Lib.hid (RB.out.below B)
    replace OWA := Lib.hid (OWA.out.below B)
    replace OWB := Lib.hid (OWB.out.below B)
    replace OXA := Lib.hid (OXA.out.below B)
    replace OXB := Lib.hid (OXB.out.below B)
    replace OGA := Lib.hid (OGA.out.below B)
    replace OGB := Lib.hid (OGB.out.below B)
    replace T := Lib.hid (T.out.trans (B.mono T.out.size))
    clear hb B
    go_wp2_with fail
    refine (markWork_c k AG ys.length cG _ _ BG vs.length dG _ _ tt _ OGA.out OGB.out PG.out (by omega) (by omega)).mono ?_
    rintro e w10 ⟨wm, rfl, hg1, hg2, ho1, ho2⟩
    have S10 := Lib.hid (show w9.heap.size + 0 ≤ w10.heap.size by have h := hg1.size; have h' := hg2.size; omega)
    replace q0 : w10.cell? ⟨w.heap.size, 0, none⟩ = some (.int .i64 k) := cellGrown hg2 (cellGrown hg1 q0 (blk_off UGA.out (by have h1 := S1.out; have h2 := S2.out; have h3 := S3.out; have h4 := S4.out; have h5 := S5.out; have h6 := S6.out; have h7 := S7.out; have h8 := S8.out; have h9 := S9.out; omega))) (blk_off UGB.out (by have h1 := S1.out; have h2 := S2.out; have h3 := S3.out; have h4 := S4.out; have h5 := S5.out; have h6 := S6.out; have h7 := S7.out; have h8 := S8.out; have h9 := S9.out; omega))
    replace q1 : w10.cell? ⟨w.heap.size, 1, none⟩ = some (.slice A rs.length c) := cellGrown hg2 (cellGrown hg1 q1 (blk_off UGA.out (by have h1 := S1.out; have h2 := S2.out; have h3 := S3.out; have h4 := S4.out; have h5 := S5.out; have h6 := S6.out; have h7 := S7.out; have h8 := S8.out; have h9 := S9.out; omega))) (blk_off UGB.out (by have h1 := S1.out; have h2 := S2.out; have h3 := S3.out; have h4 := S4.out; have h5 := S5.out; have h6 := S6.out; have h7 := S7.out; have h8 := S8.out; have h9 := S9.out; omega))
    replace q2 : w10.cell? ⟨w.heap.size, 2, none⟩ = some (.slice B0 qs.length d) := cellGrown hg2 (cellGrown hg1 q2 (blk_off UGA.out (by have h1 := S1.out; have h2 := S2.out; have h3 := S3.out; have h4 := S4.out; have h5 := S5.out; have h6 := S6.out; have h7 := S7.out; have h8 := S8.out; have h9 := S9.out; omega))) (blk_off UGB.out (by have h1 := S1.out; have h2 := S2.out; have h3 := S3.out; have h4 := S4.out; have h5 := S5.out; have h6 := S6.out; have h7 := S7.out; have h8 := S8.out; have h9 := S9.out; omega))
    replace q3 : w10.cell? ⟨w.heap.size, 3, none⟩ = some (.int .i64 t) := cellGrown hg2 (cellGrown hg1 q3 (blk_off UGA.out (by have h1 := S1.out; have h2 := S2.out; have h3 := S3.out; have h4 := S4.out; have h5 := S5.out; have h6 := S6.out; have h7 := S7.out; have h8 := S8.out; have h9 := S9.out; omega))) (blk_off UGB.out (by have h1 := S1.out; have h2 := S2.out; have h3 := S3.out; have h4 := S4.out; have h5 := S5.out; have h6 := S6.out; have h7 := S7.out; have h8 := S8.out; have h9 := S9.out; omega))
    replace u0 : w10.cell? ⟨w3.heap.size, 0, none⟩ = some (.int .i64 k) := cellGrown hg2 (cellGrown hg1 u0 (blk_off UGA.out (by have h1 := S1.out; have h2 := S2.out; have h3 := S3.out; have h4 := S4.out; have h5 := S5.out; have h6 := S6.out; have h7 := S7.out; have h8 := S8.out; have h9 := S9.out; omega))) (blk_off UGB.out (by have h1 := S1.out; have h2 := S2.out; have h3 := S3.out; have h4 := S4.out; have h5 := S5.out; have h6 := S6.out; have h7 := S7.out; have h8 := S8.out; have h9 := S9.out; omega))
    replace u1 : w10.cell? ⟨w3.heap.size, 1, none⟩ = some (.slice AW ys.length cW) := cellGrown hg2 (cellGrown hg1 u1 (blk_off UGA.out (by have h1 := S1.out; have h2 := S2.out; have h3 := S3.out; have h4 := S4.out; have h5 := S5.out; have h6 := S6.out; have h7 := S7.out; have h8 := S8.out; have h9 := S9.out; omega))) (blk_off UGB.out (by have h1 := S1.out; have h2 := S2.out; have h3 := S3.out; have h4 := S4.out; have h5 := S5.out; have h6 := S6.out; have h7 := S7.out; have h8 := S8.out; have h9 := S9.out; omega))
    replace u2 : w10.cell? ⟨w3.heap.size, 2, none⟩ = some (.slice BW vs.length dW) := cellGrown hg2 (cellGrown hg1 u2 (blk_off UGA.out (by have h1 := S1.out; have h2 := S2.out; have h3 := S3.out; have h4 := S4.out; have h5 := S5.out; have h6 := S6.out; have h7 := S7.out; have h8 := S8.out; have h9 := S9.out; omega))) (blk_off UGB.out (by have h1 := S1.out; have h2 := S2.out; have h3 := S3.out; have h4 := S4.out; have h5 := S5.out; have h6 := S6.out; have h7 := S7.out; have h8 := S8.out; have h9 := S9.out; omega))
    replace u3 : w10.cell? ⟨w3.heap.size, 3, none⟩ = some (.int .i64 tt) := cellGrown hg2 (cellGrown hg1 u3 (blk_off UGA.out (by have h1 := S1.out; have h2 := S2.out; have h3 := S3.out; have h4 := S4.out; have h5 := S5.out; have h6 := S6.out; have h7 := S7.out; have h8 := S8.out; have h9 := S9.out; omega))) (blk_off UGB.out (by have h1 := S1.out; have h2 := S2.out; have h3 := S3.out; have h4 := S4.out; have h5 := S5.out; have h6 := S6.out; have h7 := S7.out; have h8 := S8.out; have h9 := S9.out; omega))
    replace x0 : w10.cell? ⟨w4.heap.size, 0, none⟩ = some (.int .i64 k) := cellGrown hg2 (cellGrown hg1 x0 (blk_off UGA.out (by have h1 := S1.out; have h2 := S2.out; have h3 := S3.out; have h4 := S4.out; have h5 := S5.out; have h6 := S6.out; have h7 := S7.out; have h8 := S8.out; have h9 := S9.out; omega))) (blk_off UGB.out (by have h1 := S1.out; have h2 := S2.out; have h3 := S3.out; have h4 := S4.out; have h5 := S5.out; have h6 := S6.out; have h7 := S7.out; have h8 := S8.out; have h9 := S9.out; omega))
    replace x1 : w10.cell? ⟨w4.heap.size, 1, none⟩ = some (.slice AX rs.length cX) := cellGrown hg2 (cellGrown hg1 x1 (blk_off UGA.out (by have h1 := S1.out; have h2 := S2.out; have h3 := S3.out; have h4 := S4.out; have h5 := S5.out; have h6 := S6.out; have h7 := S7.out; have h8 := S8.out; have h9 := S9.out; omega))) (blk_off UGB.out (by have h1 := S1.out; have h2 := S2.out; have h3 := S3.out; have h4 := S4.out; have h5 := S5.out; have h6 := S6.out; have h7 := S7.out; have h8 := S8.out; have h9 := S9.out; omega))
    replace x2 : w10.cell? ⟨w4.heap.size, 2, none⟩ = some (.slice BX qs.length qs.length) := cellGrown hg2 (cellGrown hg1 x2 (blk_off UGA.out (by have h1 := S1.out; have h2 := S2.out; have h3 := S3.out; have h4 := S4.out; have h5 := S5.out; have h6 := S6.out; have h7 := S7.out; have h8 := S8.out; have h9 := S9.out; omega))) (blk_off UGB.out (by have h1 := S1.out; have h2 := S2.out; have h3 := S3.out; have h4 := S4.out; have h5 := S5.out; have h6 := S6.out; have h7 := S7.out; have h8 := S8.out; have h9 := S9.out; omega))
    replace x3 : w10.cell? ⟨w4.heap.size, 3, none⟩ = some (.int .i64 t) := cellGrown hg2 (cellGrown hg1 x3 (blk_off UGA.out (by have h1 := S1.out; have h2 := S2.out; have h3 := S3.out; have h4 := S4.out; have h5 := S5.out; have h6 := S6.out; have h7 := S7.out; have h8 := S8.out; have h9 := S9.out; omega))) (blk_off UGB.out (by have h1 := S1.out; have h2 := S2.out; have h3 := S3.out; have h4 := S4.out; have h5 := S5.out; have h6 := S6.out; have h7 := S7.out; have h8 := S8.out; have h9 := S9.out; omega))
    replace g0 : w10.cell? ⟨w5.heap.size, 0, none⟩ = some (.int .i64 k) := cellGrown hg2 (cellGrown hg1 g0 (blk_off UGA.out (by have h1 := S1.out; have h2 := S2.out; have h3 := S3.out; have h4 := S4.out; have h5 := S5.out; have h6 := S6.out; have h7 := S7.out; have h8 := S8.out; have h9 := S9.out; omega))) (blk_off UGB.out (by have h1 := S1.out; have h2 := S2.out; have h3 := S3.out; have h4 := S4.out; have h5 := S5.out; have h6 := S6.out; have h7 := S7.out; have h8 := S8.out; have h9 := S9.out; omega))
    replace g1 : w10.cell? ⟨w5.heap.size, 1, none⟩ = some (.slice AG ys.length cG) := cellGrown hg2 (cellGrown hg1 g1 (blk_off UGA.out (by have h1 := S1.out; have h2 := S2.out; have h3 := S3.out; have h4 := S4.out; have h5 := S5.out; have h6 := S6.out; have h7 := S7.out; have h8 := S8.out; have h9 := S9.out; omega))) (blk_off UGB.out (by have h1 := S1.out; have h2 := S2.out; have h3 := S3.out; have h4 := S4.out; have h5 := S5.out; have h6 := S6.out; have h7 := S7.out; have h8 := S8.out; have h9 := S9.out; omega))
    replace g2 : w10.cell? ⟨w5.heap.size, 2, none⟩ = some (.slice BG vs.length dG) := cellGrown hg2 (cellGrown hg1 g2 (blk_off UGA.out (by have h1 := S1.out; have h2 := S2.out; have h3 := S3.out; have h4 := S4.out; have h5 := S5.out; have h6 := S6.out; have h7 := S7.out; have h8 := S8.out; have h9 := S9.out; omega))) (blk_off UGB.out (by have h1 := S1.out; have h2 := S2.out; have h3 := S3.out; have h4 := S4.out; have h5 := S5.out; have h6 := S6.out; have h7 := S7.out; have h8 := S8.out; have h9 := S9.out; omega))
    replace g3 : w10.cell? ⟨w5.heap.size, 3, none⟩ = some (.int .i64 tt) := cellGrown hg2 (cellGrown hg1 g3 (blk_off UGA.out (by have h1 := S1.out; have h2 := S2.out; have h3 := S3.out; have h4 := S4.out; have h5 := S5.out; have h6 := S6.out; have h7 := S7.out; have h8 := S8.out; have h9 := S9.out; omega))) (blk_off UGB.out (by have h1 := S1.out; have h2 := S2.out; have h3 := S3.out; have h4 := S4.out; have h5 := S5.out; have h6 := S6.out; have h7 := S7.out; have h8 := S8.out; have h9 := S9.out; omega))
    replace RA := Lib.hid ((RA.out.grown' hg1 (blk_ne UA.out UGA.out (by have h1 := S1.out; have h2 := S2.out; have h3 := S3.out; have h4 := S4.out; have h5 := S5.out; have h6 := S6.out; have h7 := S7.out; have h8 := S8.out; have h9 := S9.out; omega))).grown' hg2 (blk_ne UA.out UGB.out (by have h1 := S1.out; have h2 := S2.out; have h3 := S3.out; have h4 := S4.out; have h5 := S5.out; have h6 := S6.out; have h7 := S7.out; have h8 := S8.out; have h9 := S9.out; omega)))
    replace RB := Lib.hid ((RB.out.grown' hg1 (blk_ne UB.out UGA.out (by have h1 := S1.out; have h2 := S2.out; have h3 := S3.out; have h4 := S4.out; have h5 := S5.out; have h6 := S6.out; have h7 := S7.out; have h8 := S8.out; have h9 := S9.out; omega))).grown' hg2 (blk_ne UB.out UGB.out (by have h1 := S1.out; have h2 := S2.out; have h3 := S3.out; have h4 := S4.out; have h5 := S5.out; have h6 := S6.out; have h7 := S7.out; have h8 := S8.out; have h9 := S9.out; omega)))
    replace OWA := Lib.hid ((OWA.out.grown hg1 (blk_ne UWA.out UGA.out (by have h1 := S1.out; have h2 := S2.out; have h3 := S3.out; have h4 := S4.out; have h5 := S5.out; have h6 := S6.out; have h7 := S7.out; have h8 := S8.out; have h9 := S9.out; omega))).grown hg2 (blk_ne UWA.out UGB.out (by have h1 := S1.out; have h2 := S2.out; have h3 := S3.out; have h4 := S4.out; have h5 := S5.out; have h6 := S6.out; have h7 := S7.out; have h8 := S8.out; have h9 := S9.out; omega)))
    replace OWB := Lib.hid ((OWB.out.grown hg1 (blk_ne UWB.out UGA.out (by have h1 := S1.out; have h2 := S2.out; have h3 := S3.out; have h4 := S4.out; have h5 := S5.out; have h6 := S6.out; have h7 := S7.out; have h8 := S8.out; have h9 := S9.out; omega))).grown hg2 (blk_ne UWB.out UGB.out (by have h1 := S1.out; have h2 := S2.out; have h3 := S3.out; have h4 := S4.out; have h5 := S5.out; have h6 := S6.out; have h7 := S7.out; have h8 := S8.out; have h9 := S9.out; omega)))
    replace OXA := Lib.hid ((OXA.out.grown hg1 (blk_ne UXA.out UGA.out (by have h1 := S1.out; have h2 := S2.out; have h3 := S3.out; have h4 := S4.out; have h5 := S5.out; have h6 := S6.out; have h7 := S7.out; have h8 := S8.out; have h9 := S9.out; omega))).grown hg2 (blk_ne UXA.out UGB.out (by have h1 := S1.out; have h2 := S2.out; have h3 := S3.out; have h4 := S4.out; have h5 := S5.out; have h6 := S6.out; have h7 := S7.out; have h8 := S8.out; have h9 := S9.out; omega)))
    replace OXB := Lib.hid ((OXB.out.grown hg1 (blk_ne UXB.out UGA.out (by have h1 := S1.out; have h2 := S2.out; have h3 := S3.out; have h4 := S4.out; have h5 := S5.out; have h6 := S6.out; have h7 := S7.out; have h8 := S8.out; have h9 := S9.out; omega))).grown hg2 (blk_ne UXB.out UGB.out (by have h1 := S1.out; have h2 := S2.out; have h3 := S3.out; have h4 := S4.out; have h5 := S5.out; have h6 := S6.out; have h7 := S7.out; have h8 := S8.out; have h9 := S9.out; omega)))
    replace OGA := Lib.hid ho1
    replace OGB := Lib.hid ho2
    have T' := Lib.hid (below_grown T.out T.out.size hg1 UGA.out (by have h1 := S1.out; have h2 := S2.out; have h3 := S3.out; have h4 := S4.out; have h5 := S5.out; have h6 := S6.out; have h7 := S7.out; have h8 := S8.out; have h9 := S9.out; omega))
    replace T := Lib.hid (below_grown T'.out T'.out.size hg2 UGB.out (by have h1 := S1.out; have h2 := S2.out; have h3 := S3.out; have h4 := S4.out; have h5 := S5.out; have h6 := S6.out; have h7 := S7.out; have h8 := S8.out; have h9 := S9.out; omega))
    clear ho1 ho2 hg1 hg2 T'
    go_wp2_with fail
    refine (heldWork_c k AG ys.length cG BG vs.length dG tt _ OGA.out.rd OGB.out.rd (by omega) (by omega)).mono ?_
    rintro e w11 ⟨rfl, hb⟩
    have B := below_then (a := w10) (by repeat (first | exact Below.refl _ _ | refine Below.setCell ?_ (by simp) _ | refine Below.alloc ?_ (by simp <;> omega) _ | refine below_drewN ?_ _ | refine Below.drew ?_)) hb
    have S11 := Lib.hid (show w10.heap.size + 0 ≤ w11.heap.size by have h := hb.size; (try simp at h); omega)
    replace q0 : w11.cell? ⟨w.heap.size, 0, none⟩ = some (.int .i64 k) := cellKeep B q0
    replace q1 : w11.cell? ⟨w.heap.size, 1, none⟩ = some (.slice A rs.length c) := cellKeep B q1
    replace q2 : w11.cell? ⟨w.heap.size, 2, none⟩ = some (.slice B0 qs.length d) := cellKeep B q2
    replace q3 : w11.cell? ⟨w.heap.size, 3, none⟩ = some (.int .i64 t) := cellKeep B q3
    replace u0 : w11.cell? ⟨w3.heap.size, 0, none⟩ = some (.int .i64 k) := cellKeep B u0
    replace u1 : w11.cell? ⟨w3.heap.size, 1, none⟩ = some (.slice AW ys.length cW) := cellKeep B u1
    replace u2 : w11.cell? ⟨w3.heap.size, 2, none⟩ = some (.slice BW vs.length dW) := cellKeep B u2
    replace u3 : w11.cell? ⟨w3.heap.size, 3, none⟩ = some (.int .i64 tt) := cellKeep B u3
    replace x0 : w11.cell? ⟨w4.heap.size, 0, none⟩ = some (.int .i64 k) := cellKeep B x0
    replace x1 : w11.cell? ⟨w4.heap.size, 1, none⟩ = some (.slice AX rs.length cX) := cellKeep B x1
    replace x2 : w11.cell? ⟨w4.heap.size, 2, none⟩ = some (.slice BX qs.length qs.length) := cellKeep B x2
    replace x3 : w11.cell? ⟨w4.heap.size, 3, none⟩ = some (.int .i64 t) := cellKeep B x3
    replace g0 : w11.cell? ⟨w5.heap.size, 0, none⟩ = some (.int .i64 k) := cellKeep B g0
    replace g1 : w11.cell? ⟨w5.heap.size, 1, none⟩ = some (.slice AG ys.length cG) := cellKeep B g1
    replace g2 : w11.cell? ⟨w5.heap.size, 2, none⟩ = some (.slice BG vs.length dG) := cellKeep B g2
    replace g3 : w11.cell? ⟨w5.heap.size, 3, none⟩ = some (.int .i64 tt) := cellKeep B g3
    replace RA := Lib.hid (RA.out.below B)
    replace RB := Lib.hid (RB.out.below B)
    replace OWA := Lib.hid (OWA.out.below B)
    replace OWB := Lib.hid (OWB.out.below B)
    replace OXA := Lib.hid (OXA.out.below B)
    replace OXB := Lib.hid (OXB.out.below B)
    replace OGA := Lib.hid (OGA.out.below B)
    replace OGB := Lib.hid (OGB.out.below B)
    replace T := Lib.hid (T.out.trans (B.mono T.out.size))
    clear hb B
    go_wp2_with fail
    refine (h2.out _ (RA.out.below (by repeat (first | exact Below.refl _ _ | refine Below.setCell ?_ (by simp) _ | refine Below.alloc ?_ (by simp <;> omega) _ | refine below_drewN ?_ _ | refine Below.drew ?_))) (RB.out.below (by repeat (first | exact Below.refl _ _ | refine Below.setCell ?_ (by simp) _ | refine Below.alloc ?_ (by simp <;> omega) _ | refine below_drewN ?_ _ | refine Below.drew ?_)))).mono ?_
    rintro e w12 ⟨AZ, cZ, BZ, rfl, hownA, hownB, hap, hb⟩
    have B := below_then (a := w11) (by repeat (first | exact Below.refl _ _ | refine Below.setCell ?_ (by simp) _ | refine Below.alloc ?_ (by simp <;> omega) _ | refine below_drewN ?_ _ | refine Below.drew ?_)) hb
    have S12 := Lib.hid (show w11.heap.size + 0 ≤ w12.heap.size by have h := hb.size; (try simp at h); omega)
    replace q0 : w12.cell? ⟨w.heap.size, 0, none⟩ = some (.int .i64 k) := cellKeep B q0
    replace q1 : w12.cell? ⟨w.heap.size, 1, none⟩ = some (.slice A rs.length c) := cellKeep B q1
    replace q2 : w12.cell? ⟨w.heap.size, 2, none⟩ = some (.slice B0 qs.length d) := cellKeep B q2
    replace q3 : w12.cell? ⟨w.heap.size, 3, none⟩ = some (.int .i64 t) := cellKeep B q3
    replace u0 : w12.cell? ⟨w3.heap.size, 0, none⟩ = some (.int .i64 k) := cellKeep B u0
    replace u1 : w12.cell? ⟨w3.heap.size, 1, none⟩ = some (.slice AW ys.length cW) := cellKeep B u1
    replace u2 : w12.cell? ⟨w3.heap.size, 2, none⟩ = some (.slice BW vs.length dW) := cellKeep B u2
    replace u3 : w12.cell? ⟨w3.heap.size, 3, none⟩ = some (.int .i64 tt) := cellKeep B u3
    replace x0 : w12.cell? ⟨w4.heap.size, 0, none⟩ = some (.int .i64 k) := cellKeep B x0
    replace x1 : w12.cell? ⟨w4.heap.size, 1, none⟩ = some (.slice AX rs.length cX) := cellKeep B x1
    replace x2 : w12.cell? ⟨w4.heap.size, 2, none⟩ = some (.slice BX qs.length qs.length) := cellKeep B x2
    replace x3 : w12.cell? ⟨w4.heap.size, 3, none⟩ = some (.int .i64 t) := cellKeep B x3
    replace g0 : w12.cell? ⟨w5.heap.size, 0, none⟩ = some (.int .i64 k) := cellKeep B g0
    replace g1 : w12.cell? ⟨w5.heap.size, 1, none⟩ = some (.slice AG ys.length cG) := cellKeep B g1
    replace g2 : w12.cell? ⟨w5.heap.size, 2, none⟩ = some (.slice BG vs.length dG) := cellKeep B g2
    replace g3 : w12.cell? ⟨w5.heap.size, 3, none⟩ = some (.int .i64 tt) := cellKeep B g3
    replace RA := Lib.hid (RA.out.below B)
    replace RB := Lib.hid (RB.out.below B)
    replace OWA := Lib.hid (OWA.out.below B)
    replace OWB := Lib.hid (OWB.out.below B)
    replace OXA := Lib.hid (OXA.out.below B)
    replace OXB := Lib.hid (OXB.out.below B)
    replace OGA := Lib.hid (OGA.out.below B)
    replace OGB := Lib.hid (OGB.out.below B)
    have OZA := Lib.hid ((hownA).mono (base' := w11.heap.size) (by simp <;> omega))
    have UZA := Lib.hid OZA.out.blkIn
    clear hownA
    have OZB := Lib.hid ((hownB).mono (base' := w11.heap.size) (by simp <;> omega))
    have UZB := Lib.hid OZB.out.blkIn
    clear hownB
    replace T := Lib.hid (T.out.trans (B.mono T.out.size))
    clear hb B
    go_wp2_with fail
    have PZ := Lib.hid hap
    clear hap
    refine (h4.out _ _ _ _ (OZA.out.rd.below (by repeat (first | exact Below.refl _ _ | refine Below.setCell ?_ (by simp) _ | refine Below.alloc ?_ (by simp <;> omega) _ | refine below_drewN ?_ _ | refine Below.drew ?_))) (OZB.out.rd.below (by repeat (first | exact Below.refl _ _ | refine Below.setCell ?_ (by simp) _ | refine Below.alloc ?_ (by simp <;> omega) _ | refine below_drewN ?_ _ | refine Below.drew ?_))) (cellKeep (below_then T.out (by repeat (first | exact Below.refl _ _ | refine Below.setCell ?_ (by simp) _ | refine Below.alloc ?_ (by simp <;> omega) _ | refine below_drewN ?_ _ | refine Below.drew ?_))) HM.out)).mono ?_
    rintro e w13 ⟨AH, cH, BH, dH, rfl, hownA, hownB, hap, hb⟩
    replace hap := apart_blk hap hownA.2.1 hownB.2.1
    have B := below_then (a := w12) (by repeat (first | exact Below.refl _ _ | refine Below.setCell ?_ (by simp) _ | refine Below.alloc ?_ (by simp <;> omega) _ | refine below_drewN ?_ _ | refine Below.drew ?_)) hb
    have S13 := Lib.hid (show w12.heap.size + 0 ≤ w13.heap.size by have h := hb.size; (try simp at h); omega)
    replace q0 : w13.cell? ⟨w.heap.size, 0, none⟩ = some (.int .i64 k) := cellKeep B q0
    replace q1 : w13.cell? ⟨w.heap.size, 1, none⟩ = some (.slice A rs.length c) := cellKeep B q1
    replace q2 : w13.cell? ⟨w.heap.size, 2, none⟩ = some (.slice B0 qs.length d) := cellKeep B q2
    replace q3 : w13.cell? ⟨w.heap.size, 3, none⟩ = some (.int .i64 t) := cellKeep B q3
    replace u0 : w13.cell? ⟨w3.heap.size, 0, none⟩ = some (.int .i64 k) := cellKeep B u0
    replace u1 : w13.cell? ⟨w3.heap.size, 1, none⟩ = some (.slice AW ys.length cW) := cellKeep B u1
    replace u2 : w13.cell? ⟨w3.heap.size, 2, none⟩ = some (.slice BW vs.length dW) := cellKeep B u2
    replace u3 : w13.cell? ⟨w3.heap.size, 3, none⟩ = some (.int .i64 tt) := cellKeep B u3
    replace x0 : w13.cell? ⟨w4.heap.size, 0, none⟩ = some (.int .i64 k) := cellKeep B x0
    replace x1 : w13.cell? ⟨w4.heap.size, 1, none⟩ = some (.slice AX rs.length cX) := cellKeep B x1
    replace x2 : w13.cell? ⟨w4.heap.size, 2, none⟩ = some (.slice BX qs.length qs.length) := cellKeep B x2
    replace x3 : w13.cell? ⟨w4.heap.size, 3, none⟩ = some (.int .i64 t) := cellKeep B x3
    replace g0 : w13.cell? ⟨w5.heap.size, 0, none⟩ = some (.int .i64 k) := cellKeep B g0
    replace g1 : w13.cell? ⟨w5.heap.size, 1, none⟩ = some (.slice AG ys.length cG) := cellKeep B g1
    replace g2 : w13.cell? ⟨w5.heap.size, 2, none⟩ = some (.slice BG vs.length dG) := cellKeep B g2
    replace g3 : w13.cell? ⟨w5.heap.size, 3, none⟩ = some (.int .i64 tt) := cellKeep B g3
    replace RA := Lib.hid (RA.out.below B)
    replace RB := Lib.hid (RB.out.below B)
    replace OWA := Lib.hid (OWA.out.below B)
    replace OWB := Lib.hid (OWB.out.below B)
    replace OXA := Lib.hid (OXA.out.below B)
    replace OXB := Lib.hid (OXB.out.below B)
    replace OGA := Lib.hid (OGA.out.below B)
    replace OGB := Lib.hid (OGB.out.below B)
    replace OZA := Lib.hid (OZA.out.below B)
    replace OZB := Lib.hid (OZB.out.below B)
    have OHA := Lib.hid ((hownA.own).mono (base' := w12.heap.size) (by simp <;> omega))
    have UHA := Lib.hid OHA.out.blkIn
    clear hownA
    have OHB := Lib.hid ((hownB.own).mono (base' := w12.heap.size) (by simp <;> omega))
    have UHB := Lib.hid OHB.out.blkIn
    clear hownB
    replace T := Lib.hid (T.out.trans (B.mono T.out.size))
    clear hb B
    have q0_1 := allocKeep1 q0
    have q1_1 := allocKeep1 q1
    have q2_1 := allocKeep1 q2
    have q3_1 := allocKeep1 q3
    have u0_1 := allocKeep1 u0
    have u1_1 := allocKeep1 u1
    have u2_1 := allocKeep1 u2
    have u3_1 := allocKeep1 u3
    have x0_1 := allocKeep1 x0
    have x1_1 := allocKeep1 x1
    have x2_1 := allocKeep1 x2
    have x3_1 := allocKeep1 x3
    have g0_1 := allocKeep1 g0
    have g1_1 := allocKeep1 g1
    have g2_1 := allocKeep1 g2
    have g3_1 := allocKeep1 g3
    go_wp2_with fail
    clear q0_1 q1_1 q2_1 q3_1 u0_1 u1_1 u2_1 u3_1 x0_1 x1_1 x2_1 x3_1 g0_1 g1_1 g2_1 g3_1
    have PH := Lib.hid hap
    clear hap
    refine (eqWork_t k _ _ ys _ _ vs tt _ _ _ _ _ (OHA.out.rd.below (by repeat (first | exact Below.refl _ _ | refine Below.setCell ?_ (by simp) _ | refine Below.alloc ?_ (by simp <;> omega) _ | refine below_drewN ?_ _ | refine Below.drew ?_))) (OHB.out.rd.below (by repeat (first | exact Below.refl _ _ | refine Below.setCell ?_ (by simp) _ | refine Below.alloc ?_ (by simp <;> omega) _ | refine below_drewN ?_ _ | refine Below.drew ?_))) (OWA.out.rd.below (by repeat (first | exact Below.refl _ _ | refine Below.setCell ?_ (by simp) _ | refine Below.alloc ?_ (by simp <;> omega) _ | refine below_drewN ?_ _ | refine Below.drew ?_))) (OWB.out.rd.below (by repeat (first | exact Below.refl _ _ | refine Below.setCell ?_ (by simp) _ | refine Below.alloc ?_ (by simp <;> omega) _ | refine below_drewN ?_ _ | refine Below.drew ?_))) (by omega) (by omega)).mono ?_
    rintro e w14 ⟨rfl, hb⟩
    have B := below_then (a := w13) (by repeat (first | exact Below.refl _ _ | refine Below.setCell ?_ (by simp) _ | refine Below.alloc ?_ (by simp <;> omega) _ | refine below_drewN ?_ _ | refine Below.drew ?_)) hb
    have S14 := Lib.hid (show w13.heap.size + 1 ≤ w14.heap.size by have h := hb.size; (try simp at h); omega)
    replace q0 : w14.cell? ⟨w.heap.size, 0, none⟩ = some (.int .i64 k) := cellKeep B q0
    replace q1 : w14.cell? ⟨w.heap.size, 1, none⟩ = some (.slice A rs.length c) := cellKeep B q1
    replace q2 : w14.cell? ⟨w.heap.size, 2, none⟩ = some (.slice B0 qs.length d) := cellKeep B q2
    replace q3 : w14.cell? ⟨w.heap.size, 3, none⟩ = some (.int .i64 t) := cellKeep B q3
    replace u0 : w14.cell? ⟨w3.heap.size, 0, none⟩ = some (.int .i64 k) := cellKeep B u0
    replace u1 : w14.cell? ⟨w3.heap.size, 1, none⟩ = some (.slice AW ys.length cW) := cellKeep B u1
    replace u2 : w14.cell? ⟨w3.heap.size, 2, none⟩ = some (.slice BW vs.length dW) := cellKeep B u2
    replace u3 : w14.cell? ⟨w3.heap.size, 3, none⟩ = some (.int .i64 tt) := cellKeep B u3
    replace x0 : w14.cell? ⟨w4.heap.size, 0, none⟩ = some (.int .i64 k) := cellKeep B x0
    replace x1 : w14.cell? ⟨w4.heap.size, 1, none⟩ = some (.slice AX rs.length cX) := cellKeep B x1
    replace x2 : w14.cell? ⟨w4.heap.size, 2, none⟩ = some (.slice BX qs.length qs.length) := cellKeep B x2
    replace x3 : w14.cell? ⟨w4.heap.size, 3, none⟩ = some (.int .i64 t) := cellKeep B x3
    replace g0 : w14.cell? ⟨w5.heap.size, 0, none⟩ = some (.int .i64 k) := cellKeep B g0
    replace g1 : w14.cell? ⟨w5.heap.size, 1, none⟩ = some (.slice AG ys.length cG) := cellKeep B g1
    replace g2 : w14.cell? ⟨w5.heap.size, 2, none⟩ = some (.slice BG vs.length dG) := cellKeep B g2
    replace g3 : w14.cell? ⟨w5.heap.size, 3, none⟩ = some (.int .i64 tt) := cellKeep B g3
    replace RA := Lib.hid (RA.out.below B)
    replace RB := Lib.hid (RB.out.below B)
    replace OWA := Lib.hid (OWA.out.below B)
    replace OWB := Lib.hid (OWB.out.below B)
    replace OXA := Lib.hid (OXA.out.below B)
    replace OXB := Lib.hid (OXB.out.below B)
    replace OGA := Lib.hid (OGA.out.below B)
    replace OGB := Lib.hid (OGB.out.below B)
    replace OZA := Lib.hid (OZA.out.below B)
    replace OZB := Lib.hid (OZB.out.below B)
    replace OHA := Lib.hid (OHA.out.below B)
    replace OHB := Lib.hid (OHB.out.below B)
    have h0 : w14.cell? ⟨w13.heap.size, 0, none⟩ = some (.int .i64 k) := cellKeep hb (by simp [go_sem])
    have h1 : w14.cell? ⟨w13.heap.size, 1, none⟩ = some (.slice AH ys.length cH) := cellKeep hb (by simp [go_sem])
    have h2 : w14.cell? ⟨w13.heap.size, 2, none⟩ = some (.slice BH vs.length dH) := cellKeep hb (by simp [go_sem])
    have h3 : w14.cell? ⟨w13.heap.size, 3, none⟩ = some (.int .i64 tt) := cellKeep hb (by simp [go_sem])
    replace T := Lib.hid (T.out.trans (B.mono T.out.size))
    clear hb B
    go_wp2_with fail
    refine (heldWork_c k AG ys.length cG BG vs.length dG tt _ OGA.out.rd OGB.out.rd (by omega) (by omega)).mono ?_
    rintro e w15 ⟨rfl, hb⟩
    have B := below_then (a := w14) (by repeat (first | exact Below.refl _ _ | refine Below.setCell ?_ (by simp) _ | refine Below.alloc ?_ (by simp <;> omega) _ | refine below_drewN ?_ _ | refine Below.drew ?_)) hb
    have S15 := Lib.hid (show w14.heap.size + 0 ≤ w15.heap.size by have h := hb.size; (try simp at h); omega)
    replace q0 : w15.cell? ⟨w.heap.size, 0, none⟩ = some (.int .i64 k) := cellKeep B q0
    replace q1 : w15.cell? ⟨w.heap.size, 1, none⟩ = some (.slice A rs.length c) := cellKeep B q1
    replace q2 : w15.cell? ⟨w.heap.size, 2, none⟩ = some (.slice B0 qs.length d) := cellKeep B q2
    replace q3 : w15.cell? ⟨w.heap.size, 3, none⟩ = some (.int .i64 t) := cellKeep B q3
    replace u0 : w15.cell? ⟨w3.heap.size, 0, none⟩ = some (.int .i64 k) := cellKeep B u0
    replace u1 : w15.cell? ⟨w3.heap.size, 1, none⟩ = some (.slice AW ys.length cW) := cellKeep B u1
    replace u2 : w15.cell? ⟨w3.heap.size, 2, none⟩ = some (.slice BW vs.length dW) := cellKeep B u2
    replace u3 : w15.cell? ⟨w3.heap.size, 3, none⟩ = some (.int .i64 tt) := cellKeep B u3
    replace x0 : w15.cell? ⟨w4.heap.size, 0, none⟩ = some (.int .i64 k) := cellKeep B x0
    replace x1 : w15.cell? ⟨w4.heap.size, 1, none⟩ = some (.slice AX rs.length cX) := cellKeep B x1
    replace x2 : w15.cell? ⟨w4.heap.size, 2, none⟩ = some (.slice BX qs.length qs.length) := cellKeep B x2
    replace x3 : w15.cell? ⟨w4.heap.size, 3, none⟩ = some (.int .i64 t) := cellKeep B x3
    replace g0 : w15.cell? ⟨w5.heap.size, 0, none⟩ = some (.int .i64 k) := cellKeep B g0
    replace g1 : w15.cell? ⟨w5.heap.size, 1, none⟩ = some (.slice AG ys.length cG) := cellKeep B g1
    replace g2 : w15.cell? ⟨w5.heap.size, 2, none⟩ = some (.slice BG vs.length dG) := cellKeep B g2
    replace g3 : w15.cell? ⟨w5.heap.size, 3, none⟩ = some (.int .i64 tt) := cellKeep B g3
    replace h0 : w15.cell? ⟨w13.heap.size, 0, none⟩ = some (.int .i64 k) := cellKeep B h0
    replace h1 : w15.cell? ⟨w13.heap.size, 1, none⟩ = some (.slice AH ys.length cH) := cellKeep B h1
    replace h2 : w15.cell? ⟨w13.heap.size, 2, none⟩ = some (.slice BH vs.length dH) := cellKeep B h2
    replace h3 : w15.cell? ⟨w13.heap.size, 3, none⟩ = some (.int .i64 tt) := cellKeep B h3
    replace RA := Lib.hid (RA.out.below B)
    replace RB := Lib.hid (RB.out.below B)
    replace OWA := Lib.hid (OWA.out.below B)
    replace OWB := Lib.hid (OWB.out.below B)
    replace OXA := Lib.hid (OXA.out.below B)
    replace OXB := Lib.hid (OXB.out.below B)
    replace OGA := Lib.hid (OGA.out.below B)
    replace OGB := Lib.hid (OGB.out.below B)
    replace OZA := Lib.hid (OZA.out.below B)
    replace OZB := Lib.hid (OZB.out.below B)
    replace OHA := Lib.hid (OHA.out.below B)
    replace OHB := Lib.hid (OHB.out.below B)
    replace T := Lib.hid (T.out.trans (B.mono T.out.size))
    clear hb B
    go_wp2_with fail
    go_ret
    exact ⟨rfl, T.out.trans ((show Below w15.heap.size w15 _ from (by repeat (first | exact Below.refl _ _ | refine Below.setCell ?_ (by simp) _ | refine Below.alloc ?_ (by simp <;> omega) _ | refine below_drewN ?_ _ | refine Below.drew ?_))).mono T.out.size)⟩

set_option maxRecDepth 100000 in
theorem lifted (os : Os) (started : os.Started) (H : Type) (enc : TypeId × Value → H) :
    ReturnsInHanded {} Try.checked os 10 .any (Rows.fnExactTurnWorkSpec.pre6 enc Try.prog Try.f10 Rows.fnExactTurnWorkRow.domain false) (Rows.fnExactTurnWorkSpec.post enc Try.prog Try.f10 false true false false) := by
  refine returnsInHanded_of_change_shaped (C := Try.checked) Try.own started (by kernel_rfl) Try.func10
    (ChangeSpec.witness6 (enc := enc) (C := Try.checked) false ⟨#[], #[.agg #[.int .i64 0, .slice none 0 0, .slice none 0 0, .int .i64 0]], []⟩ 8 (by kernel_rfl) (by kernel_rfl) (by kernel_rfl) (by kernel_rfl)) ?_
  intro W base args ds gs before hval0 hW hcnd _ hsh _
  obtain ⟨m, hm⟩ := maxLen_of W hsh
  have hval : ∀ (j : Nat) t v, Try.f10.params[j]? = some t → args[j]? = some v → Value.okWide Try.prog W .any base t v := hval0
  have hW' := hW
  have hlt : ∀ x ∈ before, x.block < W.heap.size := fun x hx => hW.lt x hx
  obtain ⟨p, q, hA0, hV, rfl, hfz, hnd⟩ := hW
  have hA : DataW.TrodAll enc Try.prog W 0 (fun _ => true) true Try.f10.params.toList args.toList ds p := hA0
  rw [Try.params10] at hA hval
  obtain ⟨v0, d0, rfl, rfl, h0⟩ := trodAll_one hA
  clear hA0 hval0 hfz hnd
  obtain ⟨k0, A0, c0, rs0, B0, d0, qs0, n0, rfl, hr0⟩ := openWork (hval 0 57 v0 rfl rfl) h0
  refine (walk m k0 A0 c0 rs0 B0 d0 qs0 n0 W hr0 hm).mono fun e W' ⟨he, hg⟩ => ?_
  subst he
  exact ⟨_, rfl, lawPost Try.laidOut (by kernel_rfl) (by kernel_rfl) Try.boolType rfl rfl hW' hg⟩

theorem proved : Rows.FnExactTurnWorkSaid :=
  OpenClaim.holds_of_wide 10 Try.f10 rfl rfl rfl rfl rfl rfl rfl ⟨rfl, rfl, rfl, rfl, rfl⟩ rfl rfl rfl rfl rfl (by kernel_rfl) Try.func10 (by kernel_rfl)
    (of_decide_eq_true (by kernel_rfl)) (by unfold Func.isWrapper; first | (rw [if_pos (by decide +kernel)]; kernel_rfl) | (rw [if_neg (by decide +kernel)]; exact ⟨rfl, rfl⟩))
    (fun os started H enc _ => lifted os started H enc)
#print axioms proved
end Go.Proofs.Ytlohpphmamapeaa.lawExactTurnWork
