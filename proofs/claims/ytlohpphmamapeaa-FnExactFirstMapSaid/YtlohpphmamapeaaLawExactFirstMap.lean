/-
  The law FnExactFirstMap returns true for every input, and leaves its arguments as they were.
  Conditions: none.
-/
import Derived.Test.YtlohpphmamapeaaOpen
import Derived.Test.YtlohpphmamapeaaMapI
import Derived.Test.YtlohpphmamapeaaMarkL
import Derived.Test.YtlohpphmamapeaaMarkRec
namespace Go.Proofs.Ytlohpphmamapeaa.lawExactFirstMap
open Go.ChangeShapes Go.WideShapes Go.ChangeAt Go.RowKit
set_option linter.unusedVariables false

set_option maxRecDepth 100000 in
set_option maxHeartbeats 4000000 in
theorem walk (k : Int) (D0 : Option Addr) (e0 : Nat) (rs : List M.Rule) (n : Int) (A : Option Addr) (c : Nat) (xs : List Int) (w : World) (hq : (-9223372036854775808 ≤ k ∧ k ≤ 9223372036854775807) ∧ rs.length ≤ 9223372036854775807 ∧ Rd w 2 D0 rs.length (ruls rs) ∧ ∀ r ∈ rs, r.left.length ≤ 9223372036854775807 ∧ r.right.length ≤ 9223372036854775807) (hr : (-9223372036854775808 ≤ n ∧ n ≤ 9223372036854775807) ∧ xs.length ≤ 9223372036854775807 ∧ Rd w 1 A xs.length (ints xs) ∧ ∀ z ∈ xs, -9223372036854775808 ≤ z ∧ z ≤ 9223372036854775807) :
    Calls Try.prog 6 #[.agg #[.int .i64 k, .slice D0 rs.length e0], .agg #[.int .i64 n, .slice A xs.length c]] w fun e w' => e = .returned (.bool true) ∧ Below w.heap.size w w' := by
  obtain ⟨hk0, hl0, hD, hs⟩ := hq
  obtain ⟨hk, hl, hA, _⟩ := hr
  have RD := Lib.hid hD
  have RA := Lib.hid hA
  have UD := Lib.hid (hD.blkIn (by decide))
  have UA := Lib.hid (hA.blkIn (by decide))
  clear hA
  have h0 := Lib.hid (fun W h => szSystem_c k D0 e0 rs 1048576 W h hl0 hs (by omega) (by omega))
  by_cases hz0 : M.szRules rs 1048576 < 0
  case pos =>
    rw [if_pos hz0] at h0
    clear hs hD hz0
    go_enter Try.func6, Try.ntmps6
    go_wp2_with fail
    refine (h0.out _ (RD.out.below (by repeat (first | exact Below.refl _ _ | refine Below.setCell ?_ (by simp) _ | refine Below.alloc ?_ (by simp <;> omega) _ | refine below_drewN ?_ _ | refine Below.drew ?_)))).mono ?_
    rintro e w1 ⟨rfl, hb⟩
    have B := below_then (a := w) (by repeat (first | exact Below.refl _ _ | refine Below.setCell ?_ (by simp) _ | refine Below.alloc ?_ (by simp <;> omega) _ | refine below_drewN ?_ _ | refine Below.drew ?_)) hb
    have S1 := Lib.hid (show w.heap.size + 2 ≤ w1.heap.size by have h := hb.size; (try simp at h); omega)
    replace RD := Lib.hid (RD.out.below B)
    replace RA := Lib.hid (RA.out.below B)
    have s0 : w1.cell? ⟨w.heap.size, 0, none⟩ = some (.int .i64 k) := cellKeep hb (by simp [go_sem])
    have s1 : w1.cell? ⟨w.heap.size, 1, none⟩ = some (.slice D0 rs.length e0) := cellKeep hb (by simp [go_sem])
    have t0 : w1.cell? ⟨w.heap.size + 1, 0, none⟩ = some (.int .i64 n) := cellKeep hb (by simp [go_sem])
    have t1 : w1.cell? ⟨w.heap.size + 1, 1, none⟩ = some (.slice A xs.length c) := cellKeep hb (by simp [go_sem])
    have T := Lib.hid B
    clear hb B
    go_wp2_with fail
    go_ret
    exact ⟨rfl, T.out.trans ((show Below w1.heap.size w1 _ from (by repeat (first | exact Below.refl _ _ | refine Below.setCell ?_ (by simp) _ | refine Below.alloc ?_ (by simp <;> omega) _ | refine below_drewN ?_ _ | refine Below.drew ?_))).mono T.out.size)⟩
  case neg =>
    rw [if_neg hz0] at h0
    obtain ⟨hl5, hs2, hle⟩ := M.szRules_ok hz0
    have hl6 : rs.length ≤ 1048576 := by omega
    have hs3 : ∀ r ∈ rs, r.left.length ≤ 1048576 ∧ r.right.length ≤ 1048576 := fun r hr => by have := hs2 r hr; omega
    generalize M.szRules rs 1048576 = z at *
    have hg : ¬ z < 0 := hz0
    have h1 := Lib.hid (fun W h => szTable_c n A c xs z W h hl hle (by omega))
    clear hs hD hz0 hs2
    by_cases hz : z - xs.length < 0
    case pos =>
      rw [if_pos hz] at h1
      clear hz hs3
      go_enter Try.func6, Try.ntmps6
      go_wp2_with fail
      refine (h0.out _ (RD.out.below (by repeat (first | exact Below.refl _ _ | refine Below.setCell ?_ (by simp) _ | refine Below.alloc ?_ (by simp <;> omega) _ | refine below_drewN ?_ _ | refine Below.drew ?_)))).mono ?_
      rintro e w1 ⟨rfl, hb⟩
      have B := below_then (a := w) (by repeat (first | exact Below.refl _ _ | refine Below.setCell ?_ (by simp) _ | refine Below.alloc ?_ (by simp <;> omega) _ | refine below_drewN ?_ _ | refine Below.drew ?_)) hb
      have S1 := Lib.hid (show w.heap.size + 2 ≤ w1.heap.size by have h := hb.size; (try simp at h); omega)
      replace RD := Lib.hid (RD.out.below B)
      replace RA := Lib.hid (RA.out.below B)
      have s0 : w1.cell? ⟨w.heap.size, 0, none⟩ = some (.int .i64 k) := cellKeep hb (by simp [go_sem])
      have s1 : w1.cell? ⟨w.heap.size, 1, none⟩ = some (.slice D0 rs.length e0) := cellKeep hb (by simp [go_sem])
      have t0 : w1.cell? ⟨w.heap.size + 1, 0, none⟩ = some (.int .i64 n) := cellKeep hb (by simp [go_sem])
      have t1 : w1.cell? ⟨w.heap.size + 1, 1, none⟩ = some (.slice A xs.length c) := cellKeep hb (by simp [go_sem])
      have T := Lib.hid B
      clear hb B
      go_wp2_with fail
      refine (h1.out _ (RA.out.below (by repeat (first | exact Below.refl _ _ | refine Below.setCell ?_ (by simp) _ | refine Below.alloc ?_ (by simp <;> omega) _ | refine below_drewN ?_ _ | refine Below.drew ?_)))).mono ?_
      rintro e w2 ⟨rfl, hb⟩
      have B := below_then (a := w1) (by repeat (first | exact Below.refl _ _ | refine Below.setCell ?_ (by simp) _ | refine Below.alloc ?_ (by simp <;> omega) _ | refine below_drewN ?_ _ | refine Below.drew ?_)) hb
      have S2 := Lib.hid (show w1.heap.size + 0 ≤ w2.heap.size by have h := hb.size; (try simp at h); omega)
      replace s0 : w2.cell? ⟨w.heap.size, 0, none⟩ = some (.int .i64 k) := cellKeep B s0
      replace s1 : w2.cell? ⟨w.heap.size, 1, none⟩ = some (.slice D0 rs.length e0) := cellKeep B s1
      replace t0 : w2.cell? ⟨w.heap.size + 1, 0, none⟩ = some (.int .i64 n) := cellKeep B t0
      replace t1 : w2.cell? ⟨w.heap.size + 1, 1, none⟩ = some (.slice A xs.length c) := cellKeep B t1
      replace RD := Lib.hid (RD.out.below B)
      replace RA := Lib.hid (RA.out.below B)
      replace T := Lib.hid (T.out.trans (B.mono T.out.size))
      clear hb B
      go_wp2_with fail
      go_ret
      exact ⟨rfl, T.out.trans ((show Below w2.heap.size w2 _ from (by repeat (first | exact Below.refl _ _ | refine Below.setCell ?_ (by simp) _ | refine Below.alloc ?_ (by simp <;> omega) _ | refine below_drewN ?_ _ | refine Below.drew ?_))).mono T.out.size)⟩
    case neg =>
      rw [if_neg hz] at h1
      have hl3 : xs.length ≤ 1048576 := by omega
      obtain ⟨y, hyy⟩ : ∃ y, y = z - (xs.length : Int) := ⟨_, rfl⟩
      rw [← hyy] at h1 hz
      clear hyy
      have h2 := Lib.hid (fun W h => toTable_c n A c xs W h hl3)
      have h6 := Lib.hid (fun W h => toSystem_c k D0 e0 rs W h hl6)
      have h3 := Lib.hid (fun W D e A c h h' => retFB (spec_FirstMap_c k D e rs n A c xs W h h' hl6 hs3 hl3))
      have h4 := Lib.hid (fun W D e A c h h' => retFB (impl_FirstMap_c k D e rs n A c xs W h h' hl6 hs3 hl3))
      have hzl := firstMap_len (k := k) (n0 := n) (xs := xs) hs3
      clear hs3
      generalize (M.FirstMap k rs n xs).1 = zs at *
      generalize (M.FirstMap k rs n xs).2 = b at *
      have hk1 : ¬ ((1 : Int) + (rs.length : Int) * 2 < 0) := by omega
      have hk2 : ¬ ((1 : Int) + (rs.length : Int) * 2 + (xs.length : Int) < 0) := by omega
      have hk3 : ¬ ((1 : Int) + (zs.length : Int) < 0) := by omega
      cases b
      all_goals
        go_enter Try.func6, Try.ntmps6
        go_wp2_with fail
        refine (h0.out _ (RD.out.below (by repeat (first | exact Below.refl _ _ | refine Below.setCell ?_ (by simp) _ | refine Below.alloc ?_ (by simp <;> omega) _ | refine below_drewN ?_ _ | refine Below.drew ?_)))).mono ?_
        rintro e w1 ⟨rfl, hb⟩
        have B := below_then (a := w) (by repeat (first | exact Below.refl _ _ | refine Below.setCell ?_ (by simp) _ | refine Below.alloc ?_ (by simp <;> omega) _ | refine below_drewN ?_ _ | refine Below.drew ?_)) hb
        have S1 := Lib.hid (show w.heap.size + 2 ≤ w1.heap.size by have h := hb.size; (try simp at h); omega)
        replace RD := Lib.hid (RD.out.below B)
        replace RA := Lib.hid (RA.out.below B)
        have s0 : w1.cell? ⟨w.heap.size, 0, none⟩ = some (.int .i64 k) := cellKeep hb (by simp [go_sem])
        have s1 : w1.cell? ⟨w.heap.size, 1, none⟩ = some (.slice D0 rs.length e0) := cellKeep hb (by simp [go_sem])
        have t0 : w1.cell? ⟨w.heap.size + 1, 0, none⟩ = some (.int .i64 n) := cellKeep hb (by simp [go_sem])
        have t1 : w1.cell? ⟨w.heap.size + 1, 1, none⟩ = some (.slice A xs.length c) := cellKeep hb (by simp [go_sem])
        have T := Lib.hid B
        clear hb B
        go_wp2_with fail
        refine (h1.out _ (RA.out.below (by repeat (first | exact Below.refl _ _ | refine Below.setCell ?_ (by simp) _ | refine Below.alloc ?_ (by simp <;> omega) _ | refine below_drewN ?_ _ | refine Below.drew ?_)))).mono ?_
        rintro e w2 ⟨rfl, hb⟩
        have B := below_then (a := w1) (by repeat (first | exact Below.refl _ _ | refine Below.setCell ?_ (by simp) _ | refine Below.alloc ?_ (by simp <;> omega) _ | refine below_drewN ?_ _ | refine Below.drew ?_)) hb
        have S2 := Lib.hid (show w1.heap.size + 0 ≤ w2.heap.size by have h := hb.size; (try simp at h); omega)
        replace s0 : w2.cell? ⟨w.heap.size, 0, none⟩ = some (.int .i64 k) := cellKeep B s0
        replace s1 : w2.cell? ⟨w.heap.size, 1, none⟩ = some (.slice D0 rs.length e0) := cellKeep B s1
        replace t0 : w2.cell? ⟨w.heap.size + 1, 0, none⟩ = some (.int .i64 n) := cellKeep B t0
        replace t1 : w2.cell? ⟨w.heap.size + 1, 1, none⟩ = some (.slice A xs.length c) := cellKeep B t1
        replace RD := Lib.hid (RD.out.below B)
        replace RA := Lib.hid (RA.out.below B)
        replace T := Lib.hid (T.out.trans (B.mono T.out.size))
        clear hb B
        go_wp2_with fail
        go_region_held3 (fun w' => w'.cell? ⟨w.heap.size, 0, none⟩ = some (.int .i64 k) ∧ w'.cell? ⟨w.heap.size, 1, none⟩ = some (.slice D0 rs.length e0) ∧ w'.cell? ⟨w.heap.size + 1, 0, none⟩ = some (.int .i64 n) ∧ w'.cell? ⟨w.heap.size + 1, 1, none⟩ = some (.slice A xs.length c) ∧ Below w2.heap.size w2 w') (first | exact ⟨s0, s1, t0, t1, (by repeat (first | exact Below.refl _ _ | refine Below.setCell ?_ (by simp) _ | refine Below.alloc ?_ (by simp <;> omega) _ | refine below_drewN ?_ _ | refine Below.drew ?_))⟩ | assumption | exact held4 (by assumption) hbS | exact held4 (by assumption) hbT | exact held4 (by assumption) hbc) (first | (go_simp; go_at_call 16; refine (h6.out _ (RD.out.below (held4_below (by assumption)))).mono ?_; rintro e waS ⟨AS, cS, rfl, hownS, hbS⟩) | (go_simp; go_at_call 23; refine (h2.out _ (RA.out.below (held4_below (by assumption)))).mono ?_; rintro e waT ⟨AT, cT, rfl, hownT, hbT⟩) | (go_simp; go_at_call 33; refine (h3.out _ _ _ _ _ (by first | exact Own.rd (by assumption) | exact (Own.rd (by assumption)).below (by assumption) | exact ((Own.rd (by assumption)).below (by assumption)).below (by assumption)) (by first | exact Own.rd (by assumption) | exact (Own.rd (by assumption)).below (by assumption) | exact ((Own.rd (by assumption)).below (by assumption)).below (by assumption))).mono ?_; rintro e w3 ⟨AW, cW, rfl, hownW, hbc⟩))
        all_goals
          have hS : w3.cell? ⟨w.heap.size, 0, none⟩ = some (.int .i64 k) ∧ w3.cell? ⟨w.heap.size, 1, none⟩ = some (.slice D0 rs.length e0) ∧ w3.cell? ⟨w.heap.size + 1, 0, none⟩ = some (.int .i64 n) ∧ w3.cell? ⟨w.heap.size + 1, 1, none⟩ = some (.slice A xs.length c) ∧ Below w2.heap.size w2 w3 := by assumption
          have B := held4_below hS
          have S3 := Lib.hid (show w2.heap.size + 0 ≤ w3.heap.size by have h := B.size; (try simp at h); omega)
          replace s0 : w3.cell? ⟨w.heap.size, 0, none⟩ = some (.int .i64 k) := cellKeep B s0
          replace s1 : w3.cell? ⟨w.heap.size, 1, none⟩ = some (.slice D0 rs.length e0) := cellKeep B s1
          replace t0 : w3.cell? ⟨w.heap.size + 1, 0, none⟩ = some (.int .i64 n) := cellKeep B t0
          replace t1 : w3.cell? ⟨w.heap.size + 1, 1, none⟩ = some (.slice A xs.length c) := cellKeep B t1
          replace RD := Lib.hid (RD.out.below B)
          replace RA := Lib.hid (RA.out.below B)
          replace T := Lib.hid (T.out.trans (B.mono T.out.size))
          clear hS B
          go_wp2_with fail
          have OW := Lib.hid (hownW.mono (base' := w2.heap.size) (by have h1 := hbS.size; have h2 := hbT.size; simp at h1 h2; omega))
          have UW := Lib.hid OW.out.blkIn
          clear hownW
          refine (h6.out _ (RD.out.below (by repeat (first | exact Below.refl _ _ | refine Below.setCell ?_ (by simp) _ | refine Below.alloc ?_ (by simp <;> omega) _ | refine below_drewN ?_ _ | refine Below.drew ?_)))).mono ?_
          rintro e w4 ⟨AX, cX, rfl, hown, hb⟩
          have B := below_then (a := w3) (by repeat (first | exact Below.refl _ _ | refine Below.setCell ?_ (by simp) _ | refine Below.alloc ?_ (by simp <;> omega) _ | refine below_drewN ?_ _ | refine Below.drew ?_)) hb
          have S4 := Lib.hid (show w3.heap.size + 0 ≤ w4.heap.size by have h := hb.size; (try simp at h); omega)
          replace s0 : w4.cell? ⟨w.heap.size, 0, none⟩ = some (.int .i64 k) := cellKeep B s0
          replace s1 : w4.cell? ⟨w.heap.size, 1, none⟩ = some (.slice D0 rs.length e0) := cellKeep B s1
          replace t0 : w4.cell? ⟨w.heap.size + 1, 0, none⟩ = some (.int .i64 n) := cellKeep B t0
          replace t1 : w4.cell? ⟨w.heap.size + 1, 1, none⟩ = some (.slice A xs.length c) := cellKeep B t1
          replace RD := Lib.hid (RD.out.below B)
          replace RA := Lib.hid (RA.out.below B)
          replace OW := Lib.hid (OW.out.below B)
          have OX := Lib.hid ((hown).mono (base' := w3.heap.size) (by simp <;> omega))
          have UX := Lib.hid OX.out.blkIn
          clear hown
          replace T := Lib.hid (T.out.trans (B.mono T.out.size))
          clear hb B
          have s0_1 := allocKeep1 s0
          have s1_1 := allocKeep1 s1
          have t0_1 := allocKeep1 t0
          have t1_1 := allocKeep1 t1
          go_wp2_with fail
          clear s0_1 s1_1 t0_1 t1_1
          refine (h2.out _ (RA.out.below (by repeat (first | exact Below.refl _ _ | refine Below.setCell ?_ (by simp) _ | refine Below.alloc ?_ (by simp <;> omega) _ | refine below_drewN ?_ _ | refine Below.drew ?_)))).mono ?_
          rintro e w5 ⟨AY, cY, rfl, hown, hb⟩
          have B := below_then (a := w4) (by repeat (first | exact Below.refl _ _ | refine Below.setCell ?_ (by simp) _ | refine Below.alloc ?_ (by simp <;> omega) _ | refine below_drewN ?_ _ | refine Below.drew ?_)) hb
          have S5 := Lib.hid (show w4.heap.size + 1 ≤ w5.heap.size by have h := hb.size; (try simp at h); omega)
          replace s0 : w5.cell? ⟨w.heap.size, 0, none⟩ = some (.int .i64 k) := cellKeep B s0
          replace s1 : w5.cell? ⟨w.heap.size, 1, none⟩ = some (.slice D0 rs.length e0) := cellKeep B s1
          replace t0 : w5.cell? ⟨w.heap.size + 1, 0, none⟩ = some (.int .i64 n) := cellKeep B t0
          replace t1 : w5.cell? ⟨w.heap.size + 1, 1, none⟩ = some (.slice A xs.length c) := cellKeep B t1
          replace RD := Lib.hid (RD.out.below B)
          replace RA := Lib.hid (RA.out.below B)
          replace OW := Lib.hid (OW.out.below B)
          replace OX := Lib.hid (OX.out.below B)
          have x0 : w5.cell? ⟨w4.heap.size, 0, none⟩ = some (.int .i64 k) := cellKeep hb (by simp [go_sem])
          have x1 : w5.cell? ⟨w4.heap.size, 1, none⟩ = some (.slice AX rs.length cX) := cellKeep hb (by simp [go_sem])
          have OY := Lib.hid ((hown).mono (base' := w4.heap.size + 1) (by simp <;> omega))
          have UY := Lib.hid OY.out.blkIn
          clear hown
          replace T := Lib.hid (T.out.trans (B.mono T.out.size))
          clear hb B
          have s0_1 := allocKeep1 s0
          have s1_1 := allocKeep1 s1
          have t0_1 := allocKeep1 t0
          have t1_1 := allocKeep1 t1
          have x0_1 := allocKeep1 x0
          have x1_1 := allocKeep1 x1
          go_wp2_with fail
          clear s0_1 s1_1 t0_1 t1_1 x0_1 x1_1
          refine (h4.out _ _ _ _ _ (OX.out.rd.below (by repeat (first | exact Below.refl _ _ | refine Below.setCell ?_ (by simp) _ | refine Below.alloc ?_ (by simp <;> omega) _ | refine below_drewN ?_ _ | refine Below.drew ?_))) (OY.out.rd.below (by repeat (first | exact Below.refl _ _ | refine Below.setCell ?_ (by simp) _ | refine Below.alloc ?_ (by simp <;> omega) _ | refine below_drewN ?_ _ | refine Below.drew ?_)))).mono ?_
          rintro e w6 ⟨AG, cG, rfl, hown, hb⟩
          have B := below_then (a := w5) (by repeat (first | exact Below.refl _ _ | refine Below.setCell ?_ (by simp) _ | refine Below.alloc ?_ (by simp <;> omega) _ | refine below_drewN ?_ _ | refine Below.drew ?_)) hb
          have S6 := Lib.hid (show w5.heap.size + 1 ≤ w6.heap.size by have h := hb.size; (try simp at h); omega)
          replace s0 : w6.cell? ⟨w.heap.size, 0, none⟩ = some (.int .i64 k) := cellKeep B s0
          replace s1 : w6.cell? ⟨w.heap.size, 1, none⟩ = some (.slice D0 rs.length e0) := cellKeep B s1
          replace t0 : w6.cell? ⟨w.heap.size + 1, 0, none⟩ = some (.int .i64 n) := cellKeep B t0
          replace t1 : w6.cell? ⟨w.heap.size + 1, 1, none⟩ = some (.slice A xs.length c) := cellKeep B t1
          replace x0 : w6.cell? ⟨w4.heap.size, 0, none⟩ = some (.int .i64 k) := cellKeep B x0
          replace x1 : w6.cell? ⟨w4.heap.size, 1, none⟩ = some (.slice AX rs.length cX) := cellKeep B x1
          replace RD := Lib.hid (RD.out.below B)
          replace RA := Lib.hid (RA.out.below B)
          replace OW := Lib.hid (OW.out.below B)
          replace OX := Lib.hid (OX.out.below B)
          replace OY := Lib.hid (OY.out.below B)
          have y0 : w6.cell? ⟨w5.heap.size, 0, none⟩ = some (.int .i64 n) := cellKeep hb (by simp [go_sem])
          have y1 : w6.cell? ⟨w5.heap.size, 1, none⟩ = some (.slice AY xs.length cY) := cellKeep hb (by simp [go_sem])
          have OG := Lib.hid ((hown).mono (base' := w5.heap.size + 1) (by simp <;> omega))
          have UG := Lib.hid OG.out.blkIn
          clear hown
          replace T := Lib.hid (T.out.trans (B.mono T.out.size))
          clear hb B
          go_wp2_with fail
          refine (eqIntS_t _ _ _ _ zs _ OG.out.rd OW.out.rd (by omega)).mono ?_
          rintro e w7 ⟨rfl, hb⟩
          have B := below_then (a := w6) (by repeat (first | exact Below.refl _ _ | refine Below.setCell ?_ (by simp) _ | refine Below.alloc ?_ (by simp <;> omega) _ | refine below_drewN ?_ _ | refine Below.drew ?_)) hb
          have S7 := Lib.hid (show w6.heap.size + 0 ≤ w7.heap.size by have h := hb.size; (try simp at h); omega)
          replace s0 : w7.cell? ⟨w.heap.size, 0, none⟩ = some (.int .i64 k) := cellKeep B s0
          replace s1 : w7.cell? ⟨w.heap.size, 1, none⟩ = some (.slice D0 rs.length e0) := cellKeep B s1
          replace t0 : w7.cell? ⟨w.heap.size + 1, 0, none⟩ = some (.int .i64 n) := cellKeep B t0
          replace t1 : w7.cell? ⟨w.heap.size + 1, 1, none⟩ = some (.slice A xs.length c) := cellKeep B t1
          replace x0 : w7.cell? ⟨w4.heap.size, 0, none⟩ = some (.int .i64 k) := cellKeep B x0
          replace x1 : w7.cell? ⟨w4.heap.size, 1, none⟩ = some (.slice AX rs.length cX) := cellKeep B x1
          replace y0 : w7.cell? ⟨w5.heap.size, 0, none⟩ = some (.int .i64 n) := cellKeep B y0
          replace y1 : w7.cell? ⟨w5.heap.size, 1, none⟩ = some (.slice AY xs.length cY) := cellKeep B y1
          replace RD := Lib.hid (RD.out.below B)
          replace RA := Lib.hid (RA.out.below B)
          replace OW := Lib.hid (OW.out.below B)
          replace OX := Lib.hid (OX.out.below B)
          replace OY := Lib.hid (OY.out.below B)
          replace OG := Lib.hid (OG.out.below B)
          replace T := Lib.hid (T.out.trans (B.mono T.out.size))
          clear hb B
          go_wp2_with fail
          go_region_held3 (fun w' => w'.cell? ⟨w.heap.size, 0, none⟩ = some (.int .i64 k) ∧ w'.cell? ⟨w.heap.size, 1, none⟩ = some (.slice D0 rs.length e0) ∧ w'.cell? ⟨w4.heap.size, 0, none⟩ = some (.int .i64 k) ∧ w'.cell? ⟨w4.heap.size, 1, none⟩ = some (.slice AX rs.length cX) ∧ Below w7.heap.size w7 w') (first | exact ⟨s0, s1, x0, x1, (by repeat (first | exact Below.refl _ _ | refine Below.setCell ?_ (by simp) _ | refine Below.alloc ?_ (by simp <;> omega) _ | refine below_drewN ?_ _ | refine Below.drew ?_))⟩ | assumption | exact held4 (by assumption) hbU | exact held4 (by assumption) hbc) (first | (go_simp; go_at_call 16; refine (h6.out _ (RD.out.below (held4_below (by assumption)))).mono ?_; rintro e waU ⟨AU, cU, rfl, hownU, hbU⟩) | (go_simp; go_at_call 18; refine (eqSystem_t _ _ _ _ _ _ _ (OX.out.rd.below (held4_below (by assumption))) hownU.rd (by omega)).mono ?_; rintro e w8 ⟨rfl, hbc⟩))
          all_goals
            have hS : w8.cell? ⟨w.heap.size, 0, none⟩ = some (.int .i64 k) ∧ w8.cell? ⟨w.heap.size, 1, none⟩ = some (.slice D0 rs.length e0) ∧ w8.cell? ⟨w4.heap.size, 0, none⟩ = some (.int .i64 k) ∧ w8.cell? ⟨w4.heap.size, 1, none⟩ = some (.slice AX rs.length cX) ∧ Below w7.heap.size w7 w8 := by assumption
            have B := held4_below hS
            have S8 := Lib.hid (show w7.heap.size + 0 ≤ w8.heap.size by have h := B.size; (try simp at h); omega)
            replace s0 : w8.cell? ⟨w.heap.size, 0, none⟩ = some (.int .i64 k) := cellKeep B s0
            replace s1 : w8.cell? ⟨w.heap.size, 1, none⟩ = some (.slice D0 rs.length e0) := cellKeep B s1
            replace t0 : w8.cell? ⟨w.heap.size + 1, 0, none⟩ = some (.int .i64 n) := cellKeep B t0
            replace t1 : w8.cell? ⟨w.heap.size + 1, 1, none⟩ = some (.slice A xs.length c) := cellKeep B t1
            replace x0 : w8.cell? ⟨w4.heap.size, 0, none⟩ = some (.int .i64 k) := cellKeep B x0
            replace x1 : w8.cell? ⟨w4.heap.size, 1, none⟩ = some (.slice AX rs.length cX) := cellKeep B x1
            replace y0 : w8.cell? ⟨w5.heap.size, 0, none⟩ = some (.int .i64 n) := cellKeep B y0
            replace y1 : w8.cell? ⟨w5.heap.size, 1, none⟩ = some (.slice AY xs.length cY) := cellKeep B y1
            replace RD := Lib.hid (RD.out.below B)
            replace RA := Lib.hid (RA.out.below B)
            replace OW := Lib.hid (OW.out.below B)
            replace OX := Lib.hid (OX.out.below B)
            replace OY := Lib.hid (OY.out.below B)
            replace OG := Lib.hid (OG.out.below B)
            replace T := Lib.hid (T.out.trans (B.mono T.out.size))
            clear hS B
            go_wp2_with fail
            go_region_held3 (fun w' => w'.cell? ⟨w.heap.size + 1, 0, none⟩ = some (.int .i64 n) ∧ w'.cell? ⟨w.heap.size + 1, 1, none⟩ = some (.slice A xs.length c) ∧ w'.cell? ⟨w5.heap.size, 0, none⟩ = some (.int .i64 n) ∧ w'.cell? ⟨w5.heap.size, 1, none⟩ = some (.slice AY xs.length cY) ∧ Below w8.heap.size w8 w') (first | exact ⟨t0, t1, y0, y1, (by repeat (first | exact Below.refl _ _ | refine Below.setCell ?_ (by simp) _ | refine Below.alloc ?_ (by simp <;> omega) _ | refine below_drewN ?_ _ | refine Below.drew ?_))⟩ | assumption | exact held4 (by assumption) hbV | exact held4 (by assumption) hbc) (first | (go_simp; go_at_call 23; refine (h2.out _ (RA.out.below (held4_below (by assumption)))).mono ?_; rintro e waV ⟨AV, cV, rfl, hownV, hbV⟩) | (go_simp; go_at_call 27; refine (eqTable_t _ _ _ _ _ _ _ (OY.out.rd.below (held4_below (by assumption))) hownV.rd (by omega)).mono ?_; rintro e w9 ⟨rfl, hbc⟩))
            all_goals
              have hS : w9.cell? ⟨w.heap.size + 1, 0, none⟩ = some (.int .i64 n) ∧ w9.cell? ⟨w.heap.size + 1, 1, none⟩ = some (.slice A xs.length c) ∧ w9.cell? ⟨w5.heap.size, 0, none⟩ = some (.int .i64 n) ∧ w9.cell? ⟨w5.heap.size, 1, none⟩ = some (.slice AY xs.length cY) ∧ Below w8.heap.size w8 w9 := by assumption
              have B := held4_below hS
              have S9 := Lib.hid (show w8.heap.size + 0 ≤ w9.heap.size by have h := B.size; (try simp at h); omega)
              replace s0 : w9.cell? ⟨w.heap.size, 0, none⟩ = some (.int .i64 k) := cellKeep B s0
              replace s1 : w9.cell? ⟨w.heap.size, 1, none⟩ = some (.slice D0 rs.length e0) := cellKeep B s1
              replace t0 : w9.cell? ⟨w.heap.size + 1, 0, none⟩ = some (.int .i64 n) := cellKeep B t0
              replace t1 : w9.cell? ⟨w.heap.size + 1, 1, none⟩ = some (.slice A xs.length c) := cellKeep B t1
              replace x0 : w9.cell? ⟨w4.heap.size, 0, none⟩ = some (.int .i64 k) := cellKeep B x0
              replace x1 : w9.cell? ⟨w4.heap.size, 1, none⟩ = some (.slice AX rs.length cX) := cellKeep B x1
              replace y0 : w9.cell? ⟨w5.heap.size, 0, none⟩ = some (.int .i64 n) := cellKeep B y0
              replace y1 : w9.cell? ⟨w5.heap.size, 1, none⟩ = some (.slice AY xs.length cY) := cellKeep B y1
              replace RD := Lib.hid (RD.out.below B)
              replace RA := Lib.hid (RA.out.below B)
              replace OW := Lib.hid (OW.out.below B)
              replace OX := Lib.hid (OX.out.below B)
              replace OY := Lib.hid (OY.out.below B)
              replace OG := Lib.hid (OG.out.below B)
              replace T := Lib.hid (T.out.trans (B.mono T.out.size))
              clear hS B
              go_wp2_with fail
              refine (markSystem_c k AX rs.length cX _ _ 1 _ OX.out (by omega) (by omega) (by omega)).mono ?_
              rintro e w10 ⟨rfl, ho, hg⟩
              have S10 := Lib.hid (show w9.heap.size + 0 ≤ w10.heap.size by have h := hg.size; (try simp at h); omega)
              replace s0 : w10.cell? ⟨w.heap.size, 0, none⟩ = some (.int .i64 k) := cellGrown hg s0 (blk_off UX.out (by have h1 := S1.out; have h2 := S2.out; have h3 := S3.out; have h4 := S4.out; have h5 := S5.out; have h6 := S6.out; have h7 := S7.out; have h8 := S8.out; have h9 := S9.out; omega))
              replace s1 : w10.cell? ⟨w.heap.size, 1, none⟩ = some (.slice D0 rs.length e0) := cellGrown hg s1 (blk_off UX.out (by have h1 := S1.out; have h2 := S2.out; have h3 := S3.out; have h4 := S4.out; have h5 := S5.out; have h6 := S6.out; have h7 := S7.out; have h8 := S8.out; have h9 := S9.out; omega))
              replace t0 : w10.cell? ⟨w.heap.size + 1, 0, none⟩ = some (.int .i64 n) := cellGrown hg t0 (blk_off UX.out (by have h1 := S1.out; have h2 := S2.out; have h3 := S3.out; have h4 := S4.out; have h5 := S5.out; have h6 := S6.out; have h7 := S7.out; have h8 := S8.out; have h9 := S9.out; omega))
              replace t1 : w10.cell? ⟨w.heap.size + 1, 1, none⟩ = some (.slice A xs.length c) := cellGrown hg t1 (blk_off UX.out (by have h1 := S1.out; have h2 := S2.out; have h3 := S3.out; have h4 := S4.out; have h5 := S5.out; have h6 := S6.out; have h7 := S7.out; have h8 := S8.out; have h9 := S9.out; omega))
              replace x0 : w10.cell? ⟨w4.heap.size, 0, none⟩ = some (.int .i64 k) := cellGrown hg x0 (blk_off UX.out (by have h1 := S1.out; have h2 := S2.out; have h3 := S3.out; have h4 := S4.out; have h5 := S5.out; have h6 := S6.out; have h7 := S7.out; have h8 := S8.out; have h9 := S9.out; omega))
              replace x1 : w10.cell? ⟨w4.heap.size, 1, none⟩ = some (.slice AX rs.length cX) := cellGrown hg x1 (blk_off UX.out (by have h1 := S1.out; have h2 := S2.out; have h3 := S3.out; have h4 := S4.out; have h5 := S5.out; have h6 := S6.out; have h7 := S7.out; have h8 := S8.out; have h9 := S9.out; omega))
              replace y0 : w10.cell? ⟨w5.heap.size, 0, none⟩ = some (.int .i64 n) := cellGrown hg y0 (blk_off UX.out (by have h1 := S1.out; have h2 := S2.out; have h3 := S3.out; have h4 := S4.out; have h5 := S5.out; have h6 := S6.out; have h7 := S7.out; have h8 := S8.out; have h9 := S9.out; omega))
              replace y1 : w10.cell? ⟨w5.heap.size, 1, none⟩ = some (.slice AY xs.length cY) := cellGrown hg y1 (blk_off UX.out (by have h1 := S1.out; have h2 := S2.out; have h3 := S3.out; have h4 := S4.out; have h5 := S5.out; have h6 := S6.out; have h7 := S7.out; have h8 := S8.out; have h9 := S9.out; omega))
              replace RD := Lib.hid (RD.out.grown' hg (blk_ne UD.out UX.out (by have h1 := S1.out; have h2 := S2.out; have h3 := S3.out; have h4 := S4.out; have h5 := S5.out; have h6 := S6.out; have h7 := S7.out; have h8 := S8.out; have h9 := S9.out; omega)))
              replace RA := Lib.hid (RA.out.grown' hg (blk_ne UA.out UX.out (by have h1 := S1.out; have h2 := S2.out; have h3 := S3.out; have h4 := S4.out; have h5 := S5.out; have h6 := S6.out; have h7 := S7.out; have h8 := S8.out; have h9 := S9.out; omega)))
              replace OW := Lib.hid (OW.out.grown hg (blk_ne UW.out UX.out (by have h1 := S1.out; have h2 := S2.out; have h3 := S3.out; have h4 := S4.out; have h5 := S5.out; have h6 := S6.out; have h7 := S7.out; have h8 := S8.out; have h9 := S9.out; omega)))
              replace OY := Lib.hid (OY.out.grown hg (blk_ne UY.out UX.out (by have h1 := S1.out; have h2 := S2.out; have h3 := S3.out; have h4 := S4.out; have h5 := S5.out; have h6 := S6.out; have h7 := S7.out; have h8 := S8.out; have h9 := S9.out; omega)))
              replace OG := Lib.hid (OG.out.grown hg (blk_ne UG.out UX.out (by have h1 := S1.out; have h2 := S2.out; have h3 := S3.out; have h4 := S4.out; have h5 := S5.out; have h6 := S6.out; have h7 := S7.out; have h8 := S8.out; have h9 := S9.out; omega)))
              replace OX := Lib.hid ho
              replace T := Lib.hid (below_grown T.out T.out.size hg UX.out (by have h1 := S1.out; have h2 := S2.out; have h3 := S3.out; have h4 := S4.out; have h5 := S5.out; have h6 := S6.out; have h7 := S7.out; have h8 := S8.out; have h9 := S9.out; omega))
              clear ho hg
              go_wp2_with fail
              refine (markTable_c n AY xs.length cY _ _ (1 + (rs.length : Int) * 2) _ OY.out (by omega) (by omega) (by omega)).mono ?_
              rintro e w11 ⟨rfl, ho, hg⟩
              have S11 := Lib.hid (show w10.heap.size + 0 ≤ w11.heap.size by have h := hg.size; (try simp at h); omega)
              replace s0 : w11.cell? ⟨w.heap.size, 0, none⟩ = some (.int .i64 k) := cellGrown hg s0 (blk_off UY.out (by have h1 := S1.out; have h2 := S2.out; have h3 := S3.out; have h4 := S4.out; have h5 := S5.out; have h6 := S6.out; have h7 := S7.out; have h8 := S8.out; have h9 := S9.out; have h10 := S10.out; omega))
              replace s1 : w11.cell? ⟨w.heap.size, 1, none⟩ = some (.slice D0 rs.length e0) := cellGrown hg s1 (blk_off UY.out (by have h1 := S1.out; have h2 := S2.out; have h3 := S3.out; have h4 := S4.out; have h5 := S5.out; have h6 := S6.out; have h7 := S7.out; have h8 := S8.out; have h9 := S9.out; have h10 := S10.out; omega))
              replace t0 : w11.cell? ⟨w.heap.size + 1, 0, none⟩ = some (.int .i64 n) := cellGrown hg t0 (blk_off UY.out (by have h1 := S1.out; have h2 := S2.out; have h3 := S3.out; have h4 := S4.out; have h5 := S5.out; have h6 := S6.out; have h7 := S7.out; have h8 := S8.out; have h9 := S9.out; have h10 := S10.out; omega))
              replace t1 : w11.cell? ⟨w.heap.size + 1, 1, none⟩ = some (.slice A xs.length c) := cellGrown hg t1 (blk_off UY.out (by have h1 := S1.out; have h2 := S2.out; have h3 := S3.out; have h4 := S4.out; have h5 := S5.out; have h6 := S6.out; have h7 := S7.out; have h8 := S8.out; have h9 := S9.out; have h10 := S10.out; omega))
              replace x0 : w11.cell? ⟨w4.heap.size, 0, none⟩ = some (.int .i64 k) := cellGrown hg x0 (blk_off UY.out (by have h1 := S1.out; have h2 := S2.out; have h3 := S3.out; have h4 := S4.out; have h5 := S5.out; have h6 := S6.out; have h7 := S7.out; have h8 := S8.out; have h9 := S9.out; have h10 := S10.out; omega))
              replace x1 : w11.cell? ⟨w4.heap.size, 1, none⟩ = some (.slice AX rs.length cX) := cellGrown hg x1 (blk_off UY.out (by have h1 := S1.out; have h2 := S2.out; have h3 := S3.out; have h4 := S4.out; have h5 := S5.out; have h6 := S6.out; have h7 := S7.out; have h8 := S8.out; have h9 := S9.out; have h10 := S10.out; omega))
              replace y0 : w11.cell? ⟨w5.heap.size, 0, none⟩ = some (.int .i64 n) := cellGrown hg y0 (blk_off UY.out (by have h1 := S1.out; have h2 := S2.out; have h3 := S3.out; have h4 := S4.out; have h5 := S5.out; have h6 := S6.out; have h7 := S7.out; have h8 := S8.out; have h9 := S9.out; have h10 := S10.out; omega))
              replace y1 : w11.cell? ⟨w5.heap.size, 1, none⟩ = some (.slice AY xs.length cY) := cellGrown hg y1 (blk_off UY.out (by have h1 := S1.out; have h2 := S2.out; have h3 := S3.out; have h4 := S4.out; have h5 := S5.out; have h6 := S6.out; have h7 := S7.out; have h8 := S8.out; have h9 := S9.out; have h10 := S10.out; omega))
              replace RD := Lib.hid (RD.out.grown' hg (blk_ne UD.out UY.out (by have h1 := S1.out; have h2 := S2.out; have h3 := S3.out; have h4 := S4.out; have h5 := S5.out; have h6 := S6.out; have h7 := S7.out; have h8 := S8.out; have h9 := S9.out; have h10 := S10.out; omega)))
              replace RA := Lib.hid (RA.out.grown' hg (blk_ne UA.out UY.out (by have h1 := S1.out; have h2 := S2.out; have h3 := S3.out; have h4 := S4.out; have h5 := S5.out; have h6 := S6.out; have h7 := S7.out; have h8 := S8.out; have h9 := S9.out; have h10 := S10.out; omega)))
              replace OW := Lib.hid (OW.out.grown hg (blk_ne UW.out UY.out (by have h1 := S1.out; have h2 := S2.out; have h3 := S3.out; have h4 := S4.out; have h5 := S5.out; have h6 := S6.out; have h7 := S7.out; have h8 := S8.out; have h9 := S9.out; have h10 := S10.out; omega)))
              replace OX := Lib.hid (OX.out.grown hg (blk_ne UX.out UY.out (by have h1 := S1.out; have h2 := S2.out; have h3 := S3.out; have h4 := S4.out; have h5 := S5.out; have h6 := S6.out; have h7 := S7.out; have h8 := S8.out; have h9 := S9.out; have h10 := S10.out; omega)))
              replace OG := Lib.hid (OG.out.grown hg (blk_ne UG.out UY.out (by have h1 := S1.out; have h2 := S2.out; have h3 := S3.out; have h4 := S4.out; have h5 := S5.out; have h6 := S6.out; have h7 := S7.out; have h8 := S8.out; have h9 := S9.out; have h10 := S10.out; omega)))
              replace OY := Lib.hid ho
              replace T := Lib.hid (below_grown T.out T.out.size hg UY.out (by have h1 := S1.out; have h2 := S2.out; have h3 := S3.out; have h4 := S4.out; have h5 := S5.out; have h6 := S6.out; have h7 := S7.out; have h8 := S8.out; have h9 := S9.out; have h10 := S10.out; omega))
              clear ho hg
              go_wp2_with fail
              refine (eqIntS_t _ _ _ _ zs _ OG.out.rd OW.out.rd (by omega)).mono ?_
              rintro e w12 ⟨rfl, hb⟩
              have B := below_then (a := w11) (by repeat (first | exact Below.refl _ _ | refine Below.setCell ?_ (by simp) _ | refine Below.alloc ?_ (by simp <;> omega) _ | refine below_drewN ?_ _ | refine Below.drew ?_)) hb
              have S12 := Lib.hid (show w11.heap.size + 0 ≤ w12.heap.size by have h := hb.size; (try simp at h); omega)
              replace s0 : w12.cell? ⟨w.heap.size, 0, none⟩ = some (.int .i64 k) := cellKeep B s0
              replace s1 : w12.cell? ⟨w.heap.size, 1, none⟩ = some (.slice D0 rs.length e0) := cellKeep B s1
              replace t0 : w12.cell? ⟨w.heap.size + 1, 0, none⟩ = some (.int .i64 n) := cellKeep B t0
              replace t1 : w12.cell? ⟨w.heap.size + 1, 1, none⟩ = some (.slice A xs.length c) := cellKeep B t1
              replace x0 : w12.cell? ⟨w4.heap.size, 0, none⟩ = some (.int .i64 k) := cellKeep B x0
              replace x1 : w12.cell? ⟨w4.heap.size, 1, none⟩ = some (.slice AX rs.length cX) := cellKeep B x1
              replace y0 : w12.cell? ⟨w5.heap.size, 0, none⟩ = some (.int .i64 n) := cellKeep B y0
              replace y1 : w12.cell? ⟨w5.heap.size, 1, none⟩ = some (.slice AY xs.length cY) := cellKeep B y1
              replace RD := Lib.hid (RD.out.below B)
              replace RA := Lib.hid (RA.out.below B)
              replace OW := Lib.hid (OW.out.below B)
              replace OX := Lib.hid (OX.out.below B)
              replace OY := Lib.hid (OY.out.below B)
              replace OG := Lib.hid (OG.out.below B)
              replace T := Lib.hid (T.out.trans (B.mono T.out.size))
              clear hb B
              go_wp2_with fail
              refine (markIntS_c AG zs.length cG _ _ 1 _ OG.out (by omega) (by omega) (by omega)).mono ?_
              rintro e w13 ⟨rfl, ho, hg⟩
              have S13 := Lib.hid (show w12.heap.size + 0 ≤ w13.heap.size by have h := hg.size; (try simp at h); omega)
              replace s0 : w13.cell? ⟨w.heap.size, 0, none⟩ = some (.int .i64 k) := cellGrown hg s0 (blk_off UG.out (by have h1 := S1.out; have h2 := S2.out; have h3 := S3.out; have h4 := S4.out; have h5 := S5.out; have h6 := S6.out; have h7 := S7.out; have h8 := S8.out; have h9 := S9.out; have h10 := S10.out; have h11 := S11.out; have h12 := S12.out; omega))
              replace s1 : w13.cell? ⟨w.heap.size, 1, none⟩ = some (.slice D0 rs.length e0) := cellGrown hg s1 (blk_off UG.out (by have h1 := S1.out; have h2 := S2.out; have h3 := S3.out; have h4 := S4.out; have h5 := S5.out; have h6 := S6.out; have h7 := S7.out; have h8 := S8.out; have h9 := S9.out; have h10 := S10.out; have h11 := S11.out; have h12 := S12.out; omega))
              replace t0 : w13.cell? ⟨w.heap.size + 1, 0, none⟩ = some (.int .i64 n) := cellGrown hg t0 (blk_off UG.out (by have h1 := S1.out; have h2 := S2.out; have h3 := S3.out; have h4 := S4.out; have h5 := S5.out; have h6 := S6.out; have h7 := S7.out; have h8 := S8.out; have h9 := S9.out; have h10 := S10.out; have h11 := S11.out; have h12 := S12.out; omega))
              replace t1 : w13.cell? ⟨w.heap.size + 1, 1, none⟩ = some (.slice A xs.length c) := cellGrown hg t1 (blk_off UG.out (by have h1 := S1.out; have h2 := S2.out; have h3 := S3.out; have h4 := S4.out; have h5 := S5.out; have h6 := S6.out; have h7 := S7.out; have h8 := S8.out; have h9 := S9.out; have h10 := S10.out; have h11 := S11.out; have h12 := S12.out; omega))
              replace x0 : w13.cell? ⟨w4.heap.size, 0, none⟩ = some (.int .i64 k) := cellGrown hg x0 (blk_off UG.out (by have h1 := S1.out; have h2 := S2.out; have h3 := S3.out; have h4 := S4.out; have h5 := S5.out; have h6 := S6.out; have h7 := S7.out; have h8 := S8.out; have h9 := S9.out; have h10 := S10.out; have h11 := S11.out; have h12 := S12.out; omega))
              replace x1 : w13.cell? ⟨w4.heap.size, 1, none⟩ = some (.slice AX rs.length cX) := cellGrown hg x1 (blk_off UG.out (by have h1 := S1.out; have h2 := S2.out; have h3 := S3.out; have h4 := S4.out; have h5 := S5.out; have h6 := S6.out; have h7 := S7.out; have h8 := S8.out; have h9 := S9.out; have h10 := S10.out; have h11 := S11.out; have h12 := S12.out; omega))
              replace y0 : w13.cell? ⟨w5.heap.size, 0, none⟩ = some (.int .i64 n) := cellGrown hg y0 (blk_off UG.out (by have h1 := S1.out; have h2 := S2.out; have h3 := S3.out; have h4 := S4.out; have h5 := S5.out; have h6 := S6.out; have h7 := S7.out; have h8 := S8.out; have h9 := S9.out; have h10 := S10.out; have h11 := S11.out; have h12 := S12.out; omega))
              replace y1 : w13.cell? ⟨w5.heap.size, 1, none⟩ = some (.slice AY xs.length cY) := cellGrown hg y1 (blk_off UG.out (by have h1 := S1.out; have h2 := S2.out; have h3 := S3.out; have h4 := S4.out; have h5 := S5.out; have h6 := S6.out; have h7 := S7.out; have h8 := S8.out; have h9 := S9.out; have h10 := S10.out; have h11 := S11.out; have h12 := S12.out; omega))
              replace RD := Lib.hid (RD.out.grown' hg (blk_ne UD.out UG.out (by have h1 := S1.out; have h2 := S2.out; have h3 := S3.out; have h4 := S4.out; have h5 := S5.out; have h6 := S6.out; have h7 := S7.out; have h8 := S8.out; have h9 := S9.out; have h10 := S10.out; have h11 := S11.out; have h12 := S12.out; omega)))
              replace RA := Lib.hid (RA.out.grown' hg (blk_ne UA.out UG.out (by have h1 := S1.out; have h2 := S2.out; have h3 := S3.out; have h4 := S4.out; have h5 := S5.out; have h6 := S6.out; have h7 := S7.out; have h8 := S8.out; have h9 := S9.out; have h10 := S10.out; have h11 := S11.out; have h12 := S12.out; omega)))
              replace OW := Lib.hid (OW.out.grown hg (blk_ne UW.out UG.out (by have h1 := S1.out; have h2 := S2.out; have h3 := S3.out; have h4 := S4.out; have h5 := S5.out; have h6 := S6.out; have h7 := S7.out; have h8 := S8.out; have h9 := S9.out; have h10 := S10.out; have h11 := S11.out; have h12 := S12.out; omega)))
              replace OX := Lib.hid (OX.out.grown hg (blk_ne UX.out UG.out (by have h1 := S1.out; have h2 := S2.out; have h3 := S3.out; have h4 := S4.out; have h5 := S5.out; have h6 := S6.out; have h7 := S7.out; have h8 := S8.out; have h9 := S9.out; have h10 := S10.out; have h11 := S11.out; have h12 := S12.out; omega)))
              replace OY := Lib.hid (OY.out.grown hg (blk_ne UY.out UG.out (by have h1 := S1.out; have h2 := S2.out; have h3 := S3.out; have h4 := S4.out; have h5 := S5.out; have h6 := S6.out; have h7 := S7.out; have h8 := S8.out; have h9 := S9.out; have h10 := S10.out; have h11 := S11.out; have h12 := S12.out; omega)))
              replace OG := Lib.hid ho
              replace T := Lib.hid (below_grown T.out T.out.size hg UG.out (by have h1 := S1.out; have h2 := S2.out; have h3 := S3.out; have h4 := S4.out; have h5 := S5.out; have h6 := S6.out; have h7 := S7.out; have h8 := S8.out; have h9 := S9.out; have h10 := S10.out; have h11 := S11.out; have h12 := S12.out; omega))
              clear ho hg
              go_wp2_with fail
              refine (heldIntS_c AG zs.length cG 1 _ OG.out.rd (by omega) (by omega) (by omega)).mono ?_
              rintro e w14 ⟨rfl, hb⟩
              have B := below_then (a := w13) (by repeat (first | exact Below.refl _ _ | refine Below.setCell ?_ (by simp) _ | refine Below.alloc ?_ (by simp <;> omega) _ | refine below_drewN ?_ _ | refine Below.drew ?_)) hb
              have S14 := Lib.hid (show w13.heap.size + 0 ≤ w14.heap.size by have h := hb.size; (try simp at h); omega)
              replace s0 : w14.cell? ⟨w.heap.size, 0, none⟩ = some (.int .i64 k) := cellKeep B s0
              replace s1 : w14.cell? ⟨w.heap.size, 1, none⟩ = some (.slice D0 rs.length e0) := cellKeep B s1
              replace t0 : w14.cell? ⟨w.heap.size + 1, 0, none⟩ = some (.int .i64 n) := cellKeep B t0
              replace t1 : w14.cell? ⟨w.heap.size + 1, 1, none⟩ = some (.slice A xs.length c) := cellKeep B t1
              replace x0 : w14.cell? ⟨w4.heap.size, 0, none⟩ = some (.int .i64 k) := cellKeep B x0
              replace x1 : w14.cell? ⟨w4.heap.size, 1, none⟩ = some (.slice AX rs.length cX) := cellKeep B x1
              replace y0 : w14.cell? ⟨w5.heap.size, 0, none⟩ = some (.int .i64 n) := cellKeep B y0
              replace y1 : w14.cell? ⟨w5.heap.size, 1, none⟩ = some (.slice AY xs.length cY) := cellKeep B y1
              replace RD := Lib.hid (RD.out.below B)
              replace RA := Lib.hid (RA.out.below B)
              replace OW := Lib.hid (OW.out.below B)
              replace OX := Lib.hid (OX.out.below B)
              replace OY := Lib.hid (OY.out.below B)
              replace OG := Lib.hid (OG.out.below B)
              replace T := Lib.hid (T.out.trans (B.mono T.out.size))
              clear hb B
              go_wp2_with fail
              go_region_held3 (fun w' => w'.cell? ⟨w.heap.size, 0, none⟩ = some (.int .i64 k) ∧ w'.cell? ⟨w.heap.size, 1, none⟩ = some (.slice D0 rs.length e0) ∧ w'.cell? ⟨w.heap.size + 1, 0, none⟩ = some (.int .i64 n) ∧ w'.cell? ⟨w.heap.size + 1, 1, none⟩ = some (.slice A xs.length c) ∧ Below w14.heap.size w14 w') (first | exact ⟨s0, s1, t0, t1, (by repeat (first | exact Below.refl _ _ | refine Below.setCell ?_ (by simp) _ | refine Below.alloc ?_ (by simp <;> omega) _ | refine below_drewN ?_ _ | refine Below.drew ?_))⟩ | assumption | exact held4 (by assumption) hbS | exact held4 (by assumption) hbT | exact held4 (by assumption) hbc) (first | (go_simp; go_at_call 16; refine (h6.out _ (RD.out.below (held4_below (by assumption)))).mono ?_; rintro e waS ⟨AS, cS, rfl, hownS, hbS⟩) | (go_simp; go_at_call 23; refine (h2.out _ (RA.out.below (held4_below (by assumption)))).mono ?_; rintro e waT ⟨AT, cT, rfl, hownT, hbT⟩) | (go_simp; go_at_call 34; refine (h4.out _ _ _ _ _ (by first | exact Own.rd (by assumption) | exact (Own.rd (by assumption)).below (by assumption) | exact ((Own.rd (by assumption)).below (by assumption)).below (by assumption)) (by first | exact Own.rd (by assumption) | exact (Own.rd (by assumption)).below (by assumption) | exact ((Own.rd (by assumption)).below (by assumption)).below (by assumption))).mono ?_; rintro e w15 ⟨AH, cH, rfl, hownH, hbc⟩))
              all_goals
                have hS : w15.cell? ⟨w.heap.size, 0, none⟩ = some (.int .i64 k) ∧ w15.cell? ⟨w.heap.size, 1, none⟩ = some (.slice D0 rs.length e0) ∧ w15.cell? ⟨w.heap.size + 1, 0, none⟩ = some (.int .i64 n) ∧ w15.cell? ⟨w.heap.size + 1, 1, none⟩ = some (.slice A xs.length c) ∧ Below w14.heap.size w14 w15 := by assumption
                have B := held4_below hS
                have S15 := Lib.hid (show w14.heap.size + 0 ≤ w15.heap.size by have h := B.size; (try simp at h); omega)
                replace s0 : w15.cell? ⟨w.heap.size, 0, none⟩ = some (.int .i64 k) := cellKeep B s0
                replace s1 : w15.cell? ⟨w.heap.size, 1, none⟩ = some (.slice D0 rs.length e0) := cellKeep B s1
                replace t0 : w15.cell? ⟨w.heap.size + 1, 0, none⟩ = some (.int .i64 n) := cellKeep B t0
                replace t1 : w15.cell? ⟨w.heap.size + 1, 1, none⟩ = some (.slice A xs.length c) := cellKeep B t1
                replace x0 : w15.cell? ⟨w4.heap.size, 0, none⟩ = some (.int .i64 k) := cellKeep B x0
                replace x1 : w15.cell? ⟨w4.heap.size, 1, none⟩ = some (.slice AX rs.length cX) := cellKeep B x1
                replace y0 : w15.cell? ⟨w5.heap.size, 0, none⟩ = some (.int .i64 n) := cellKeep B y0
                replace y1 : w15.cell? ⟨w5.heap.size, 1, none⟩ = some (.slice AY xs.length cY) := cellKeep B y1
                replace RD := Lib.hid (RD.out.below B)
                replace RA := Lib.hid (RA.out.below B)
                replace OW := Lib.hid (OW.out.below B)
                replace OX := Lib.hid (OX.out.below B)
                replace OY := Lib.hid (OY.out.below B)
                replace OG := Lib.hid (OG.out.below B)
                replace T := Lib.hid (T.out.trans (B.mono T.out.size))
                clear hS B
                go_wp2_with fail
                have OH := Lib.hid (Own.mono (base' := 0) hownH (by omega))
                clear hownH
                refine (eqIntS_t _ _ _ _ zs _ OH.out.rd OW.out.rd (by omega)).mono ?_
                rintro e w16 ⟨rfl, hb⟩
                have B := below_then (a := w15) (by repeat (first | exact Below.refl _ _ | refine Below.setCell ?_ (by simp) _ | refine Below.alloc ?_ (by simp <;> omega) _ | refine below_drewN ?_ _ | refine Below.drew ?_)) hb
                have S16 := Lib.hid (show w15.heap.size + 0 ≤ w16.heap.size by have h := hb.size; (try simp at h); omega)
                replace s0 : w16.cell? ⟨w.heap.size, 0, none⟩ = some (.int .i64 k) := cellKeep B s0
                replace s1 : w16.cell? ⟨w.heap.size, 1, none⟩ = some (.slice D0 rs.length e0) := cellKeep B s1
                replace t0 : w16.cell? ⟨w.heap.size + 1, 0, none⟩ = some (.int .i64 n) := cellKeep B t0
                replace t1 : w16.cell? ⟨w.heap.size + 1, 1, none⟩ = some (.slice A xs.length c) := cellKeep B t1
                replace x0 : w16.cell? ⟨w4.heap.size, 0, none⟩ = some (.int .i64 k) := cellKeep B x0
                replace x1 : w16.cell? ⟨w4.heap.size, 1, none⟩ = some (.slice AX rs.length cX) := cellKeep B x1
                replace y0 : w16.cell? ⟨w5.heap.size, 0, none⟩ = some (.int .i64 n) := cellKeep B y0
                replace y1 : w16.cell? ⟨w5.heap.size, 1, none⟩ = some (.slice AY xs.length cY) := cellKeep B y1
                replace RD := Lib.hid (RD.out.below B)
                replace RA := Lib.hid (RA.out.below B)
                replace OW := Lib.hid (OW.out.below B)
                replace OX := Lib.hid (OX.out.below B)
                replace OY := Lib.hid (OY.out.below B)
                replace OG := Lib.hid (OG.out.below B)
                replace OH := Lib.hid (OH.out.below B)
                replace T := Lib.hid (T.out.trans (B.mono T.out.size))
                clear hb B
                go_wp2_with fail
                refine (heldIntS_c AG zs.length cG 1 _ OG.out.rd (by omega) (by omega) (by omega)).mono ?_
                rintro e w17 ⟨rfl, hb⟩
                have B := below_then (a := w16) (by repeat (first | exact Below.refl _ _ | refine Below.setCell ?_ (by simp) _ | refine Below.alloc ?_ (by simp <;> omega) _ | refine below_drewN ?_ _ | refine Below.drew ?_)) hb
                have S17 := Lib.hid (show w16.heap.size + 0 ≤ w17.heap.size by have h := hb.size; (try simp at h); omega)
                replace s0 : w17.cell? ⟨w.heap.size, 0, none⟩ = some (.int .i64 k) := cellKeep B s0
                replace s1 : w17.cell? ⟨w.heap.size, 1, none⟩ = some (.slice D0 rs.length e0) := cellKeep B s1
                replace t0 : w17.cell? ⟨w.heap.size + 1, 0, none⟩ = some (.int .i64 n) := cellKeep B t0
                replace t1 : w17.cell? ⟨w.heap.size + 1, 1, none⟩ = some (.slice A xs.length c) := cellKeep B t1
                replace x0 : w17.cell? ⟨w4.heap.size, 0, none⟩ = some (.int .i64 k) := cellKeep B x0
                replace x1 : w17.cell? ⟨w4.heap.size, 1, none⟩ = some (.slice AX rs.length cX) := cellKeep B x1
                replace y0 : w17.cell? ⟨w5.heap.size, 0, none⟩ = some (.int .i64 n) := cellKeep B y0
                replace y1 : w17.cell? ⟨w5.heap.size, 1, none⟩ = some (.slice AY xs.length cY) := cellKeep B y1
                replace RD := Lib.hid (RD.out.below B)
                replace RA := Lib.hid (RA.out.below B)
                replace OW := Lib.hid (OW.out.below B)
                replace OX := Lib.hid (OX.out.below B)
                replace OY := Lib.hid (OY.out.below B)
                replace OG := Lib.hid (OG.out.below B)
                replace OH := Lib.hid (OH.out.below B)
                replace T := Lib.hid (T.out.trans (B.mono T.out.size))
                clear hb B
                go_wp2_with fail
                go_ret
                exact ⟨rfl, T.out.trans ((show Below w17.heap.size w17 _ from (by repeat (first | exact Below.refl _ _ | refine Below.setCell ?_ (by simp) _ | refine Below.alloc ?_ (by simp <;> omega) _ | refine below_drewN ?_ _ | refine Below.drew ?_))).mono T.out.size)⟩

set_option maxRecDepth 100000 in
theorem lifted (os : Os) (started : os.Started) (H : Type) (enc : TypeId × Value → H) :
    ReturnsInHanded {} Try.checked os 6 .any (Rows.fnExactFirstMapSpec.pre6 enc Try.prog Try.f6 Rows.fnExactFirstMapRow.domain false) (Rows.fnExactFirstMapSpec.post enc Try.prog Try.f6 false true false false) := by
  refine returnsInHanded_of_change (C := Try.checked) Try.own started (by kernel_rfl) Try.func6
    (ChangeSpec.witness6 (enc := enc) (C := Try.checked) false ⟨#[], #[.agg #[.int .i64 0, .slice none 0 0], .agg #[.int .i64 0, .slice none 0 0]], []⟩ 8 (by kernel_rfl) (by kernel_rfl) (by kernel_rfl) (by kernel_rfl)) ?_
  intro W base args ds gs before hval0 hW hcnd _
  have hval : ∀ (j : Nat) t v, Try.f6.params[j]? = some t → args[j]? = some v → Value.okWide Try.prog W .any base t v := hval0
  have hW' := hW
  have hlt : ∀ x ∈ before, x.block < W.heap.size := fun x hx => hW.lt x hx
  obtain ⟨p, q, hA0, hV, rfl, hfz, hnd⟩ := hW
  have hA : DataW.TrodAll enc Try.prog W 0 (fun _ => true) true Try.f6.params.toList args.toList ds p := hA0
  rw [Try.params6] at hA hval
  obtain ⟨v0, v1, d0, d1, p0, p1, rfl, rfl, rfl, h0, h1⟩ := trodAll_two hA
  clear hA0 hval0 hfz hnd
  obtain ⟨k0, A0, c0, rs0, rfl, hr0⟩ := openSystem (hval 0 24 v0 rfl rfl) h0
  obtain ⟨k1, A1, c1, zs1, rfl, hr1⟩ := openTable (hval 1 37 v1 rfl rfl) h1
  refine (walk k0 A0 c0 rs0 k1 A1 c1 zs1 W hr0 hr1).mono fun e W' ⟨he, hg⟩ => ?_
  subst he
  exact ⟨_, rfl, lawPost Try.laidOut (by kernel_rfl) (by kernel_rfl) Try.boolType rfl rfl hW' hg⟩

theorem proved : Rows.FnExactFirstMapSaid :=
  OpenClaim.holds_of_wide 6 Try.f6 rfl rfl rfl rfl rfl rfl rfl ⟨rfl, rfl, rfl, rfl, rfl⟩ rfl rfl rfl rfl rfl (by kernel_rfl) Try.func6 (by kernel_rfl)
    (of_decide_eq_true (by kernel_rfl)) (by unfold Func.isWrapper; first | (rw [if_pos (by decide +kernel)]; kernel_rfl) | (rw [if_neg (by decide +kernel)]; exact ⟨rfl, rfl⟩))
    (fun os started H enc _ => lifted os started H enc)
#print axioms proved
end Go.Proofs.Ytlohpphmamapeaa.lawExactFirstMap
