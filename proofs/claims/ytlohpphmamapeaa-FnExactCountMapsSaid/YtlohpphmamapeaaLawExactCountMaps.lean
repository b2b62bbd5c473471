/-
  The law FnExactCountMaps returns true for every input, and leaves its arguments as they were.
  Conditions: none.
-/
import Derived.Test.YtlohpphmamapeaaOpen
import Derived.Test.YtlohpphmamapeaaMapI
import Derived.Test.YtlohpphmamapeaaMarkL
import Derived.Test.YtlohpphmamapeaaMarkRec
namespace Go.Proofs.Ytlohpphmamapeaa.lawExactCountMaps
open Go.ChangeShapes Go.WideShapes Go.ChangeAt Go.RowKit
set_option linter.unusedVariables false

set_option maxRecDepth 100000 in
set_option maxHeartbeats 4000000 in
theorem walk (k : Int) (D0 : Option Addr) (e0 : Nat) (rs : List M.Rule) (n : Int) (A : Option Addr) (c : Nat) (xs : List Int) (w : World) (hq : (-9223372036854775808 ≤ k ∧ k ≤ 9223372036854775807) ∧ rs.length ≤ 9223372036854775807 ∧ Rd w 2 D0 rs.length (ruls rs) ∧ ∀ r ∈ rs, r.left.length ≤ 9223372036854775807 ∧ r.right.length ≤ 9223372036854775807) (hr : (-9223372036854775808 ≤ n ∧ n ≤ 9223372036854775807) ∧ xs.length ≤ 9223372036854775807 ∧ Rd w 1 A xs.length (ints xs) ∧ ∀ z ∈ xs, -9223372036854775808 ≤ z ∧ z ≤ 9223372036854775807) :
    Calls Try.prog 5 #[.agg #[.int .i64 k, .slice D0 rs.length e0], .agg #[.int .i64 n, .slice A xs.length c]] w fun e w' => e = .returned (.bool true) ∧ Below w.heap.size w w' := by
  obtain ⟨hk0, hl0, hD, hs⟩ := hq
  obtain ⟨hk, hl, hA, _⟩ := hr
  have RD := Lib.hid hD
  have RA := Lib.hid hA
  have UD := Lib.hid (hD.blkIn (by decide))
  have UA := Lib.hid (hA.blkIn (by decide))
  clear hA
  have h0 := Lib.hid (fun W h => szSystem_c k D0 e0 rs 1048576 W h hl0 hs (by omega) (by omega))
  by_cases hz0 : M.szRules rs 1048576 < 0
  case pos =>
    rw [if_pos hz0] at h0
    clear hs hD hz0
    go_enter Try.func5, Try.ntmps5
    go_wp2_with fail
    refine (h0.out _ (RD.out.below (by repeat (first | exact Below.refl _ _ | refine Below.setCell ?_ (by simp) _ | refine Below.alloc ?_ (by simp <;> omega) _ | refine below_drewN ?_ _ | refine Below.drew ?_)))).mono ?_
    rintro e w1 ⟨rfl, hb⟩
    have B := below_then (a := w) (by repeat (first | exact Below.refl _ _ | refine Below.setCell ?_ (by simp) _ | refine Below.alloc ?_ (by simp <;> omega) _ | refine below_drewN ?_ _ | refine Below.drew ?_)) hb
    have S1 := Lib.hid (show w.heap.size + 2 ≤ w1.heap.size by have h := hb.size; (try simp at h); omega)
    replace RD := Lib.hid (RD.out.below B)
    replace RA := Lib.hid (RA.out.below B)
    have s0 : w1.cell? ⟨w.heap.size, 0, none⟩ = some (.int .i64 k) := cellKeep hb (by simp [go_sem])
    have s1 : w1.cell? ⟨w.heap.size, 1, none⟩ = some (.slice D0 rs.length e0) := cellKeep hb (by simp [go_sem])
    have t0 : w1.cell? ⟨w.heap.size + 1, 0, none⟩ = some (.int .i64 n) := cellKeep hb (by simp [go_sem])
    have t1 : w1.cell? ⟨w.heap.size + 1, 1, none⟩ = some (.slice A xs.length c) := cellKeep hb (by simp [go_sem])
    have T := Lib.hid B
    clear hb B
    go_wp2_with fail
    go_ret
    exact ⟨rfl, T.out.trans ((show Below w1.heap.size w1 _ from (by repeat (first | exact Below.refl _ _ | refine Below.setCell ?_ (by simp) _ | refine Below.alloc ?_ (by simp <;> omega) _ | refine below_drewN ?_ _ | refine Below.drew ?_))).mono T.out.size)⟩
  case neg =>
    rw [if_neg hz0] at h0
    obtain ⟨hl5, hs2, hle⟩ := M.szRules_ok hz0
    have hl6 : rs.length ≤ 1048576 := by omega
    have hs3 : ∀ r ∈ rs, r.left.length ≤ 1048576 ∧ r.right.length ≤ 1048576 := fun r hr => by have := hs2 r hr; omega
    generalize M.szRules rs 1048576 = z at *
    have hg : ¬ z < 0 := hz0
    have h1 := Lib.hid (fun W h => szTable_c n A c xs z W h hl hle (by omega))
    clear hs hD hz0 hs2
    by_cases hz : z - xs.length < 0
    case pos =>
      rw [if_pos hz] at h1
      clear hz hs3
      go_enter Try.func5, Try.ntmps5
      go_wp2_with fail
      refine (h0.out _ (RD.out.below (by repeat (first | exact Below.refl _ _ | refine Below.setCell ?_ (by simp) _ | refine Below.alloc ?_ (by simp <;> omega) _ | refine below_drewN ?_ _ | refine Below.drew ?_)))).mono ?_
      rintro e w1 ⟨rfl, hb⟩
      have B := below_then (a := w) (by repeat (first | exact Below.refl _ _ | refine Below.setCell ?_ (by simp) _ | refine Below.alloc ?_ (by simp <;> omega) _ | refine below_drewN ?_ _ | refine Below.drew ?_)) hb
      have S1 := Lib.hid (show w.heap.size + 2 ≤ w1.heap.size by have h := hb.size; (try simp at h); omega)
      replace RD := Lib.hid (RD.out.below B)
      replace RA := Lib.hid (RA.out.below B)
      have s0 : w1.cell? ⟨w.heap.size, 0, none⟩ = some (.int .i64 k) := cellKeep hb (by simp [go_sem])
      have s1 : w1.cell? ⟨w.heap.size, 1, none⟩ = some (.slice D0 rs.length e0) := cellKeep hb (by simp [go_sem])
      have t0 : w1.cell? ⟨w.heap.size + 1, 0, none⟩ = some (.int .i64 n) := cellKeep hb (by simp [go_sem])
      have t1 : w1.cell? ⟨w.heap.size + 1, 1, none⟩ = some (.slice A xs.length c) := cellKeep hb (by simp [go_sem])
      have T := Lib.hid B
      clear hb B
      go_wp2_with fail
      refine (h1.out _ (RA.out.below (by repeat (first | exact Below.refl _ _ | refine Below.setCell ?_ (by simp) _ | refine Below.alloc ?_ (by simp <;> omega) _ | refine below_drewN ?_ _ | refine Below.drew ?_)))).mono ?_
      rintro e w2 ⟨rfl, hb⟩
      have B := below_then (a := w1) (by repeat (first | exact Below.refl _ _ | refine Below.setCell ?_ (by simp) _ | refine Below.alloc ?_ (by simp <;> omega) _ | refine below_drewN ?_ _ | refine Below.drew ?_)) hb
      have S2 := Lib.hid (show w1.heap.size + 0 ≤ w2.heap.size by have h := hb.size; (try simp at h); omega)
      replace s0 : w2.cell? ⟨w.heap.size, 0, none⟩ = some (.int .i64 k) := cellKeep B s0
      replace s1 : w2.cell? ⟨w.heap.size, 1, none⟩ = some (.slice D0 rs.length e0) := cellKeep B s1
      replace t0 : w2.cell? ⟨w.heap.size + 1, 0, none⟩ = some (.int .i64 n) := cellKeep B t0
      replace t1 : w2.cell? ⟨w.heap.size + 1, 1, none⟩ = some (.slice A xs.length c) := cellKeep B t1
      replace RD := Lib.hid (RD.out.below B)
      replace RA := Lib.hid (RA.out.below B)
      replace T := Lib.hid (T.out.trans (B.mono T.out.size))
      clear hb B
      go_wp2_with fail
      go_ret
      exact ⟨rfl, T.out.trans ((show Below w2.heap.size w2 _ from (by repeat (first | exact Below.refl _ _ | refine Below.setCell ?_ (by simp) _ | refine Below.alloc ?_ (by simp <;> omega) _ | refine below_drewN ?_ _ | refine Below.drew ?_))).mono T.out.size)⟩
    case neg =>
      rw [if_neg hz] at h1
      have hl3 : xs.length ≤ 1048576 := by omega
      obtain ⟨y, hyy⟩ : ∃ y, y = z - (xs.length : Int) := ⟨_, rfl⟩
      rw [← hyy] at h1 hz
      clear hyy
      have h2 := Lib.hid (fun W h => toTable_c n A c xs W h hl3)
      have h6 := Lib.hid (fun W h => toSystem_c k D0 e0 rs W h hl6)
      have h3 := Lib.hid (fun W D e A c h h' => spec_CountMaps_c k D e rs n A c xs W h h' hl6 hs3 hl3)
      have h4 := Lib.hid (fun W D e A c h h' => impl_CountMaps_c k D e rs n A c xs W h h' hl6 hs3 hl3)
      clear hs3
      generalize M.CountMaps k rs n xs = v at *
      go_enter Try.func5, Try.ntmps5
      go_wp2_with fail
      refine (h0.out _ (RD.out.below (by repeat (first | exact Below.refl _ _ | refine Below.setCell ?_ (by simp) _ | refine Below.alloc ?_ (by simp <;> omega) _ | refine below_drewN ?_ _ | refine Below.drew ?_)))).mono ?_
      rintro e w1 ⟨rfl, hb⟩
      have B := below_then (a := w) (by repeat (first | exact Below.refl _ _ | refine Below.setCell ?_ (by simp) _ | refine Below.alloc ?_ (by simp <;> omega) _ | refine below_drewN ?_ _ | refine Below.drew ?_)) hb
      have S1 := Lib.hid (show w.heap.size + 2 ≤ w1.heap.size by have h := hb.size; (try simp at h); omega)
      replace RD := Lib.hid (RD.out.below B)
      replace RA := Lib.hid (RA.out.below B)
      have s0 : w1.cell? ⟨w.heap.size, 0, none⟩ = some (.int .i64 k) := cellKeep hb (by simp [go_sem])
      have s1 : w1.cell? ⟨w.heap.size, 1, none⟩ = some (.slice D0 rs.length e0) := cellKeep hb (by simp [go_sem])
      have t0 : w1.cell? ⟨w.heap.size + 1, 0, none⟩ = some (.int .i64 n) := cellKeep hb (by simp [go_sem])
      have t1 : w1.cell? ⟨w.heap.size + 1, 1, none⟩ = some (.slice A xs.length c) := cellKeep hb (by simp [go_sem])
      have T := Lib.hid B
      clear hb B
      go_wp2_with fail
      refine (h1.out _ (RA.out.below (by repeat (first | exact Below.refl _ _ | refine Below.setCell ?_ (by simp) _ | refine Below.alloc ?_ (by simp <;> omega) _ | refine below_drewN ?_ _ | refine Below.drew ?_)))).mono ?_
      rintro e w2 ⟨rfl, hb⟩
      have B := below_then (a := w1) (by repeat (first | exact Below.refl _ _ | refine Below.setCell ?_ (by simp) _ | refine Below.alloc ?_ (by simp <;> omega) _ | refine below_drewN ?_ _ | refine Below.drew ?_)) hb
      have S2 := Lib.hid (show w1.heap.size + 0 ≤ w2.heap.size by have h := hb.size; (try simp at h); omega)
      replace s0 : w2.cell? ⟨w.heap.size, 0, none⟩ = some (.int .i64 k) := cellKeep B s0
      replace s1 : w2.cell? ⟨w.heap.size, 1, none⟩ = some (.slice D0 rs.length e0) := cellKeep B s1
      replace t0 : w2.cell? ⟨w.heap.size + 1, 0, none⟩ = some (.int .i64 n) := cellKeep B t0
      replace t1 : w2.cell? ⟨w.heap.size + 1, 1, none⟩ = some (.slice A xs.length c) := cellKeep B t1
      replace RD := Lib.hid (RD.out.below B)
      replace RA := Lib.hid (RA.out.below B)
      replace T := Lib.hid (T.out.trans (B.mono T.out.size))
      clear hb B
      go_wp2_with fail
      go_region_held3 (fun w' => w'.cell? ⟨w.heap.size, 0, none⟩ = some (.int .i64 k) ∧ w'.cell? ⟨w.heap.size, 1, none⟩ = some (.slice D0 rs.length e0) ∧ w'.cell? ⟨w.heap.size + 1, 0, none⟩ = some (.int .i64 n) ∧ w'.cell? ⟨w.heap.size + 1, 1, none⟩ = some (.slice A xs.length c) ∧ Below w2.heap.size w2 w') (first | exact ⟨s0, s1, t0, t1, (by repeat (first | exact Below.refl _ _ | refine Below.setCell ?_ (by simp) _ | refine Below.alloc ?_ (by simp <;> omega) _ | refine below_drewN ?_ _ | refine Below.drew ?_))⟩ | assumption | exact held4 (by assumption) hbS | exact held4 (by assumption) hbT | exact held4 (by assumption) hbc) (first | (go_simp; go_at_call 16; refine (h6.out _ (RD.out.below (held4_below (by assumption)))).mono ?_; rintro e waS ⟨AS, cS, rfl, hownS, hbS⟩) | (go_simp; go_at_call 23; refine (h2.out _ (RA.out.below (held4_below (by assumption)))).mono ?_; rintro e waT ⟨AT, cT, rfl, hownT, hbT⟩) | (go_simp; go_at_call 31; refine (h3.out _ _ _ _ _ (by first | exact Own.rd (by assumption) | exact (Own.rd (by assumption)).below (by assumption) | exact ((Own.rd (by assumption)).below (by assumption)).below (by assumption)) (by first | exact Own.rd (by assumption) | exact (Own.rd (by assumption)).below (by assumption) | exact ((Own.rd (by assumption)).below (by assumption)).below (by assumption))).mono ?_; rintro e w3 ⟨rfl, hbc⟩))
      all_goals
        have hS : w3.cell? ⟨w.heap.size, 0, none⟩ = some (.int .i64 k) ∧ w3.cell? ⟨w.heap.size, 1, none⟩ = some (.slice D0 rs.length e0) ∧ w3.cell? ⟨w.heap.size + 1, 0, none⟩ = some (.int .i64 n) ∧ w3.cell? ⟨w.heap.size + 1, 1, none⟩ = some (.slice A xs.length c) ∧ Below w2.heap.size w2 w3 := by assumption
        have B := held4_below hS
        have S3 := Lib.hid (show w2.heap.size + 0 ≤ w3.heap.size by have h := B.size; (try simp at h); omega)
        replace s0 : w3.cell? ⟨w.heap.size, 0, none⟩ = some (.int .i64 k) := cellKeep B s0
        replace s1 : w3.cell? ⟨w.heap.size, 1, none⟩ = some (.slice D0 rs.length e0) := cellKeep B s1
        replace t0 : w3.cell? ⟨w.heap.size + 1, 0, none⟩ = some (.int .i64 n) := cellKeep B t0
        replace t1 : w3.cell? ⟨w.heap.size + 1, 1, none⟩ = some (.slice A xs.length c) := cellKeep B t1
        replace RD := Lib.hid (RD.out.below B)
        replace RA := Lib.hid (RA.out.below B)
        replace T := Lib.hid (T.out.trans (B.mono T.out.size))
        clear hS B
        go_wp2_with fail
        refine (h6.out _ (RD.out.below (by repeat (first | exact Below.refl _ _ | refine Below.setCell ?_ (by simp) _ | refine Below.alloc ?_ (by simp <;> omega) _ | refine below_drewN ?_ _ | refine Below.drew ?_)))).mono ?_
        rintro e w4 ⟨AX, cX, rfl, hown, hb⟩
        have B := below_then (a := w3) (by repeat (first | exact Below.refl _ _ | refine Below.setCell ?_ (by simp) _ | refine Below.alloc ?_ (by simp <;> omega) _ | refine below_drewN ?_ _ | refine Below.drew ?_)) hb
        have S4 := Lib.hid (show w3.heap.size + 0 ≤ w4.heap.size by have h := hb.size; (try simp at h); omega)
        replace s0 : w4.cell? ⟨w.heap.size, 0, none⟩ = some (.int .i64 k) := cellKeep B s0
        replace s1 : w4.cell? ⟨w.heap.size, 1, none⟩ = some (.slice D0 rs.length e0) := cellKeep B s1
        replace t0 : w4.cell? ⟨w.heap.size + 1, 0, none⟩ = some (.int .i64 n) := cellKeep B t0
        replace t1 : w4.cell? ⟨w.heap.size + 1, 1, none⟩ = some (.slice A xs.length c) := cellKeep B t1
        replace RD := Lib.hid (RD.out.below B)
        replace RA := Lib.hid (RA.out.below B)
        have OX := Lib.hid ((hown).mono (base' := w3.heap.size) (by simp <;> omega))
        have UX := Lib.hid OX.out.blkIn
        clear hown
        replace T := Lib.hid (T.out.trans (B.mono T.out.size))
        clear hb B
        have s0_1 := allocKeep1 s0
        have s1_1 := allocKeep1 s1
        have t0_1 := allocKeep1 t0
        have t1_1 := allocKeep1 t1
        go_wp2_with fail
        clear s0_1 s1_1 t0_1 t1_1
        refine (h2.out _ (RA.out.below (by repeat (first | exact Below.refl _ _ | refine Below.setCell ?_ (by simp) _ | refine Below.alloc ?_ (by simp <;> omega) _ | refine below_drewN ?_ _ | refine Below.drew ?_)))).mono ?_
        rintro e w5 ⟨AY, cY, rfl, hown, hb⟩
        have B := below_then (a := w4) (by repeat (first | exact Below.refl _ _ | refine Below.setCell ?_ (by simp) _ | refine Below.alloc ?_ (by simp <;> omega) _ | refine below_drewN ?_ _ | refine Below.drew ?_)) hb
        have S5 := Lib.hid (show w4.heap.size + 1 ≤ w5.heap.size by have h := hb.size; (try simp at h); omega)
        replace s0 : w5.cell? ⟨w.heap.size, 0, none⟩ = some (.int .i64 k) := cellKeep B s0
        replace s1 : w5.cell? ⟨w.heap.size, 1, none⟩ = some (.slice D0 rs.length e0) := cellKeep B s1
        replace t0 : w5.cell? ⟨w.heap.size + 1, 0, none⟩ = some (.int .i64 n) := cellKeep B t0
        replace t1 : w5.cell? ⟨w.heap.size + 1, 1, none⟩ = some (.slice A xs.length c) := cellKeep B t1
        replace RD := Lib.hid (RD.out.below B)
        replace RA := Lib.hid (RA.out.below B)
        replace OX := Lib.hid (OX.out.below B)
        have x0 : w5.cell? ⟨w4.heap.size, 0, none⟩ = some (.int .i64 k) := cellKeep hb (by simp [go_sem])
        have x1 : w5.cell? ⟨w4.heap.size, 1, none⟩ = some (.slice AX rs.length cX) := cellKeep hb (by simp [go_sem])
        have OY := Lib.hid ((hown).mono (base' := w4.heap.size + 1) (by simp <;> omega))
        have UY := Lib.hid OY.out.blkIn
        clear hown
        replace T := Lib.hid (T.out.trans (B.mono T.out.size))
        clear hb B
        have s0_1 := allocKeep1 s0
        have s1_1 := allocKeep1 s1
        have t0_1 := allocKeep1 t0
        have t1_1 := allocKeep1 t1
        have x0_1 := allocKeep1 x0
        have x1_1 := allocKeep1 x1
        go_wp2_with fail
        clear s0_1 s1_1 t0_1 t1_1 x0_1 x1_1
        refine (h4.out _ _ _ _ _ (OX.out.rd.below (by repeat (first | exact Below.refl _ _ | refine Below.setCell ?_ (by simp) _ | refine Below.alloc ?_ (by simp <;> omega) _ | refine below_drewN ?_ _ | refine Below.drew ?_))) (OY.out.rd.below (by repeat (first | exact Below.refl _ _ | refine Below.setCell ?_ (by simp) _ | refine Below.alloc ?_ (by simp <;> omega) _ | refine below_drewN ?_ _ | refine Below.drew ?_)))).mono ?_
        rintro e w6 ⟨rfl, hb⟩
        have B := below_then (a := w5) (by repeat (first | exact Below.refl _ _ | refine Below.setCell ?_ (by simp) _ | refine Below.alloc ?_ (by simp <;> omega) _ | refine below_drewN ?_ _ | refine Below.drew ?_)) hb
        have S6 := Lib.hid (show w5.heap.size + 1 ≤ w6.heap.size by have h := hb.size; (try simp at h); omega)
        replace s0 : w6.cell? ⟨w.heap.size, 0, none⟩ = some (.int .i64 k) := cellKeep B s0
        replace s1 : w6.cell? ⟨w.heap.size, 1, none⟩ = some (.slice D0 rs.length e0) := cellKeep B s1
        replace t0 : w6.cell? ⟨w.heap.size + 1, 0, none⟩ = some (.int .i64 n) := cellKeep B t0
        replace t1 : w6.cell? ⟨w.heap.size + 1, 1, none⟩ = some (.slice A xs.length c) := cellKeep B t1
        replace x0 : w6.cell? ⟨w4.heap.size, 0, none⟩ = some (.int .i64 k) := cellKeep B x0
        replace x1 : w6.cell? ⟨w4.heap.size, 1, none⟩ = some (.slice AX rs.length cX) := cellKeep B x1
        replace RD := Lib.hid (RD.out.below B)
        replace RA := Lib.hid (RA.out.below B)
        replace OX := Lib.hid (OX.out.below B)
        replace OY := Lib.hid (OY.out.below B)
        have y0 : w6.cell? ⟨w5.heap.size, 0, none⟩ = some (.int .i64 n) := cellKeep hb (by simp [go_sem])
        have y1 : w6.cell? ⟨w5.heap.size, 1, none⟩ = some (.slice AY xs.length cY) := cellKeep hb (by simp [go_sem])
        replace T := Lib.hid (T.out.trans (B.mono T.out.size))
        clear hb B
        go_wp2_with fail
        go_region_held3 (fun w' => w'.cell? ⟨w.heap.size, 0, none⟩ = some (.int .i64 k) ∧ w'.cell? ⟨w.heap.size, 1, none⟩ = some (.slice D0 rs.length e0) ∧ w'.cell? ⟨w4.heap.size, 0, none⟩ = some (.int .i64 k) ∧ w'.cell? ⟨w4.heap.size, 1, none⟩ = some (.slice AX rs.length cX) ∧ Below w6.heap.size w6 w') (first | exact ⟨s0, s1, x0, x1, (by repeat (first | exact Below.refl _ _ | refine Below.setCell ?_ (by simp) _ | refine Below.alloc ?_ (by simp <;> omega) _ | refine below_drewN ?_ _ | refine Below.drew ?_))⟩ | assumption | exact held4 (by assumption) hbU | exact held4 (by assumption) hbc) (first | (go_simp; go_at_call 16; refine (h6.out _ (RD.out.below (held4_below (by assumption)))).mono ?_; rintro e waU ⟨AU, cU, rfl, hownU, hbU⟩) | (go_simp; go_at_call 18; refine (eqSystem_t _ _ _ _ _ _ _ (OX.out.rd.below (held4_below (by assumption))) hownU.rd (by omega)).mono ?_; rintro e w7 ⟨rfl, hbc⟩))
        all_goals
          have hS : w7.cell? ⟨w.heap.size, 0, none⟩ = some (.int .i64 k) ∧ w7.cell? ⟨w.heap.size, 1, none⟩ = some (.slice D0 rs.length e0) ∧ w7.cell? ⟨w4.heap.size, 0, none⟩ = some (.int .i64 k) ∧ w7.cell? ⟨w4.heap.size, 1, none⟩ = some (.slice AX rs.length cX) ∧ Below w6.heap.size w6 w7 := by assumption
          have B := held4_below hS
          have S7 := Lib.hid (show w6.heap.size + 0 ≤ w7.heap.size by have h := B.size; (try simp at h); omega)
          replace s0 : w7.cell? ⟨w.heap.size, 0, none⟩ = some (.int .i64 k) := cellKeep B s0
          replace s1 : w7.cell? ⟨w.heap.size, 1, none⟩ = some (.slice D0 rs.length e0) := cellKeep B s1
          replace t0 : w7.cell? ⟨w.heap.size + 1, 0, none⟩ = some (.int .i64 n) := cellKeep B t0
          replace t1 : w7.cell? ⟨w.heap.size + 1, 1, none⟩ = some (.slice A xs.length c) := cellKeep B t1
          replace x0 : w7.cell? ⟨w4.heap.size, 0, none⟩ = some (.int .i64 k) := cellKeep B x0
          replace x1 : w7.cell? ⟨w4.heap.size, 1, none⟩ = some (.slice AX rs.length cX) := cellKeep B x1
          replace y0 : w7.cell? ⟨w5.heap.size, 0, none⟩ = some (.int .i64 n) := cellKeep B y0
          replace y1 : w7.cell? ⟨w5.heap.size, 1, none⟩ = some (.slice AY xs.length cY) := cellKeep B y1
          replace RD := Lib.hid (RD.out.below B)
          replace RA := Lib.hid (RA.out.below B)
          replace OX := Lib.hid (OX.out.below B)
          replace OY := Lib.hid (OY.out.below B)
          replace T := Lib.hid (T.out.trans (B.mono T.out.size))
          clear hS B
          go_wp2_with fail
          go_region_held3 (fun w' => w'.cell? ⟨w.heap.size + 1, 0, none⟩ = some (.int .i64 n) ∧ w'.cell? ⟨w.heap.size + 1, 1, none⟩ = some (.slice A xs.length c) ∧ w'.cell? ⟨w5.heap.size, 0, none⟩ = some (.int .i64 n) ∧ w'.cell? ⟨w5.heap.size, 1, none⟩ = some (.slice AY xs.length cY) ∧ Below w7.heap.size w7 w') (first | exact ⟨t0, t1, y0, y1, (by repeat (first | exact Below.refl _ _ | refine Below.setCell ?_ (by simp) _ | refine Below.alloc ?_ (by simp <;> omega) _ | refine below_drewN ?_ _ | refine Below.drew ?_))⟩ | assumption | exact held4 (by assumption) hbV | exact held4 (by assumption) hbc) (first | (go_simp; go_at_call 23; refine (h2.out _ (RA.out.below (held4_below (by assumption)))).mono ?_; rintro e waV ⟨AV, cV, rfl, hownV, hbV⟩) | (go_simp; go_at_call 27; refine (eqTable_t _ _ _ _ _ _ _ (OY.out.rd.below (held4_below (by assumption))) hownV.rd (by omega)).mono ?_; rintro e w8 ⟨rfl, hbc⟩))
          all_goals
            have hS : w8.cell? ⟨w.heap.size + 1, 0, none⟩ = some (.int .i64 n) ∧ w8.cell? ⟨w.heap.size + 1, 1, none⟩ = some (.slice A xs.length c) ∧ w8.cell? ⟨w5.heap.size, 0, none⟩ = some (.int .i64 n) ∧ w8.cell? ⟨w5.heap.size, 1, none⟩ = some (.slice AY xs.length cY) ∧ Below w7.heap.size w7 w8 := by assumption
            have B := held4_below hS
            have S8 := Lib.hid (show w7.heap.size + 0 ≤ w8.heap.size by have h := B.size; (try simp at h); omega)
            replace s0 : w8.cell? ⟨w.heap.size, 0, none⟩ = some (.int .i64 k) := cellKeep B s0
            replace s1 : w8.cell? ⟨w.heap.size, 1, none⟩ = some (.slice D0 rs.length e0) := cellKeep B s1
            replace t0 : w8.cell? ⟨w.heap.size + 1, 0, none⟩ = some (.int .i64 n) := cellKeep B t0
            replace t1 : w8.cell? ⟨w.heap.size + 1, 1, none⟩ = some (.slice A xs.length c) := cellKeep B t1
            replace x0 : w8.cell? ⟨w4.heap.size, 0, none⟩ = some (.int .i64 k) := cellKeep B x0
            replace x1 : w8.cell? ⟨w4.heap.size, 1, none⟩ = some (.slice AX rs.length cX) := cellKeep B x1
            replace y0 : w8.cell? ⟨w5.heap.size, 0, none⟩ = some (.int .i64 n) := cellKeep B y0
            replace y1 : w8.cell? ⟨w5.heap.size, 1, none⟩ = some (.slice AY xs.length cY) := cellKeep B y1
            replace RD := Lib.hid (RD.out.below B)
            replace RA := Lib.hid (RA.out.below B)
            replace OX := Lib.hid (OX.out.below B)
            replace OY := Lib.hid (OY.out.below B)
            replace T := Lib.hid (T.out.trans (B.mono T.out.size))
            clear hS B
            go_wp2_with fail
            go_ret
            exact ⟨rfl, T.out.trans ((show Below w8.heap.size w8 _ from (by repeat (first | exact Below.refl _ _ | refine Below.setCell ?_ (by simp) _ | refine Below.alloc ?_ (by simp <;> omega) _ | refine below_drewN ?_ _ | refine Below.drew ?_))).mono T.out.size)⟩

set_option maxRecDepth 100000 in
theorem lifted (os : Os) (started : os.Started) (H : Type) (enc : TypeId × Value → H) :
    ReturnsInHanded {} Try.checked os 5 .any (Rows.fnExactCountMapsSpec.pre6 enc Try.prog Try.f5 Rows.fnExactCountMapsRow.domain false) (Rows.fnExactCountMapsSpec.post enc Try.prog Try.f5 false true false false) := by
  refine returnsInHanded_of_change (C := Try.checked) Try.own started (by kernel_rfl) Try.func5
    (ChangeSpec.witness6 (enc := enc) (C := Try.checked) false ⟨#[], #[.agg #[.int .i64 0, .slice none 0 0], .agg #[.int .i64 0, .slice none 0 0]], []⟩ 8 (by kernel_rfl) (by kernel_rfl) (by kernel_rfl) (by kernel_rfl)) ?_
  intro W base args ds gs before hval0 hW hcnd _
  have hval : ∀ (j : Nat) t v, Try.f5.params[j]? = some t → args[j]? = some v → Value.okWide Try.prog W .any base t v := hval0
  have hW' := hW
  have hlt : ∀ x ∈ before, x.block < W.heap.size := fun x hx => hW.lt x hx
  obtain ⟨p, q, hA0, hV, rfl, hfz, hnd⟩ := hW
  have hA : DataW.TrodAll enc Try.prog W 0 (fun _ => true) true Try.f5.params.toList args.toList ds p := hA0
  rw [Try.params5] at hA hval
  obtain ⟨v0, v1, d0, d1, p0, p1, rfl, rfl, rfl, h0, h1⟩ := trodAll_two hA
  clear hA0 hval0 hfz hnd
  obtain ⟨k0, A0, c0, rs0, rfl, hr0⟩ := openSystem (hval 0 24 v0 rfl rfl) h0
  obtain ⟨k1, A1, c1, zs1, rfl, hr1⟩ := openTable (hval 1 37 v1 rfl rfl) h1
  refine (walk k0 A0 c0 rs0 k1 A1 c1 zs1 W hr0 hr1).mono fun e W' ⟨he, hg⟩ => ?_
  subst he
  exact ⟨_, rfl, lawPost Try.laidOut (by kernel_rfl) (by kernel_rfl) Try.boolType rfl rfl hW' hg⟩

theorem proved : Rows.FnExactCountMapsSaid :=
  OpenClaim.holds_of_wide 5 Try.f5 rfl rfl rfl rfl rfl rfl rfl ⟨rfl, rfl, rfl, rfl, rfl⟩ rfl rfl rfl rfl rfl (by kernel_rfl) Try.func5 (by kernel_rfl)
    (of_decide_eq_true (by kernel_rfl)) (by unfold Func.isWrapper; first | (rw [if_pos (by decide +kernel)]; kernel_rfl) | (rw [if_neg (by decide +kernel)]; exact ⟨rfl, rfl⟩))
    (fun os started H enc _ => lifted os started H enc)
#print axioms proved
end Go.Proofs.Ytlohpphmamapeaa.lawExactCountMaps
