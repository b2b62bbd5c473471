/-
  Contracts of SatisfiesRules.
  Conditions: at most 2^20 entries.
-/
import Derived.Test.YtgcmdebkgkepoaaSatR
namespace Go.Proofs.Ytgcmdebkgkepoaa
open Go.RowKit
set_option linter.unusedVariables false

def M.SatisfiesRules (k : Int) (rs : List M.Rule) (n : Int) (xs ys : List Int) : Bool := M.RulesOk k rs && (M.ImagesOk n xs ys && (decide ((ys.length : Int) = k) && !rs.any (M.misfit n.toNat xs ys)))
theorem fit_of {k : Int} {rs : List M.Rule} (h : M.RulesOk k rs = true) (hs : ∀ r ∈ rs, r.left.length ≤ 1048576 ∧ r.right.length ≤ 1048576) : ∀ r ∈ rs, M.Fit k r := by
  intro r hr
  unfold M.RulesOk at h
  have h2 := (Bool.and_eq_true_iff.1 (Bool.and_eq_true_iff.1 h).2).2
  have h3 : rs.any (M.ruleBad k) = false := by simpa using h2
  have h4 := List.any_eq_false.1 h3 r hr
  unfold M.ruleBad at h4
  have h5 : M.SidesOk k r = true := by
    cases hq : M.SidesOk k r
    · rw [hq] at h4; exact absurd rfl h4
    · rfl
  unfold M.SidesOk at h5
  simp only [Bool.and_eq_true] at h5
  exact ⟨⟨word_of h5.1.1.1, word_of h5.1.1.2⟩, hs r hr⟩
set_option maxRecDepth 100000 in
set_option maxHeartbeats 4000000 in
theorem impl_SatisfiesRules_c (k : Int) (D : Option Addr) (e0 : Nat) (rs : List M.Rule) (n0 : Int) (A : Option Addr) (c : Nat) (xs : List Int) (B : Option Addr) (d : Nat) (ys : List Int) (w : World) (hD : Rd w 2 D rs.length (ruls rs)) (hA : Rd w 1 A xs.length (ints xs)) (hB : Rd w 1 B ys.length (ints ys)) (hl : rs.length ≤ 1048576) (hs : ∀ r ∈ rs, r.left.length ≤ 1048576 ∧ r.right.length ≤ 1048576) (hl1 : xs.length ≤ 1048576) (hl2 : ys.length ≤ 1048576) :
    Calls Try.prog 38 #[.agg #[.int .i64 k, .slice D rs.length e0], .agg #[.int .i64 n0, .slice A xs.length c], .slice B ys.length d] w fun e w' => e = .returned (.bool (M.SatisfiesRules k rs n0 xs ys)) ∧ Below w.heap.size w w' := by
  unfold M.SatisfiesRules
  have bt := below_two w
  have HA := Lib.hid hA
  have HB := Lib.hid hB
  have HD := Lib.hid hD
  have h1 := Lib.hid (fun W h => impl_RulesOk_c k D e0 rs W h hl hs)
  have h2 := Lib.hid (fun W h h' => impl_ImagesOk_c n0 A c xs B d ys W h h' hl1 hl2)
  clear hA hB hD
  obtain ⟨x, hx⟩ : ∃ x, x = M.RulesOk k rs := ⟨_, rfl⟩
  rw [← hx] at h1 ⊢
  cases x
  case false =>
    clear hx
    go_enter Try.func38, Try.ntmps38
    go_wp2_with fail
    refine (h1.out _ (HD.out.below (bt _ _))).mono ?_
    rintro e w1 ⟨rfl, hb⟩
    go_wp2_with fail
    go_ret
    exact ⟨rfl, below_alloc2 hb⟩
  case true =>
  obtain ⟨y, hy⟩ : ∃ y, y = M.ImagesOk n0 xs ys := ⟨_, rfl⟩
  rw [← hy] at h2 ⊢
  cases y
  case false =>
    clear hx hy
    go_enter Try.func38, Try.ntmps38
    go_wp2_with fail
    refine (h1.out _ (HD.out.below (bt _ _))).mono ?_
    rintro e w1 ⟨rfl, hb⟩
    have a0 : w1.cell? ⟨w.heap.size, 0, none⟩ = some (.int .i64 k) := cellKeep hb (by simp [go_sem])
    have a1 : w1.cell? ⟨w.heap.size, 1, none⟩ = some (.slice D rs.length e0) := cellKeep hb (by simp [go_sem])
    have b0 : w1.cell? ⟨w.heap.size + 1, 0, none⟩ = some (.int .i64 n0) := cellKeep hb (by simp [go_sem])
    have b1 : w1.cell? ⟨w.heap.size + 1, 1, none⟩ = some (.slice A xs.length c) := cellKeep hb (by simp [go_sem])
    have HW := Lib.hid (below_alloc2 hb)
    clear hb
    go_wp2_with fail
    refine (h2.out _ (HA.out.below HW.out) (HB.out.below HW.out)).mono ?_
    rintro e w2 ⟨rfl, hb⟩
    go_wp2_with fail
    go_ret
    exact ⟨rfl, HW.out.trans (hb.mono HW.out.size)⟩
  case true =>
  by_cases hk : (ys.length : Int) = k
  case neg =>
    have hk' : ((ys.length : Int) == k) = false := by simpa using hk
    rw [decide_eq_false hk]
    clear hx hy hk
    go_enter Try.func38, Try.ntmps38
    go_wp2_with fail
    refine (h1.out _ (HD.out.below (bt _ _))).mono ?_
    rintro e w1 ⟨rfl, hb⟩
    have a0 : w1.cell? ⟨w.heap.size, 0, none⟩ = some (.int .i64 k) := cellKeep hb (by simp [go_sem])
    have a1 : w1.cell? ⟨w.heap.size, 1, none⟩ = some (.slice D rs.length e0) := cellKeep hb (by simp [go_sem])
    have b0 : w1.cell? ⟨w.heap.size + 1, 0, none⟩ = some (.int .i64 n0) := cellKeep hb (by simp [go_sem])
    have b1 : w1.cell? ⟨w.heap.size + 1, 1, none⟩ = some (.slice A xs.length c) := cellKeep hb (by simp [go_sem])
    have HW := Lib.hid (below_alloc2 hb)
    clear hb
    go_wp2_with fail
    refine (h2.out _ (HA.out.below HW.out) (HB.out.below HW.out)).mono ?_
    rintro e w2 ⟨rfl, hb⟩
    replace a0 := cellKeep hb a0
    replace a1 := cellKeep hb a1
    replace b0 := cellKeep hb b0
    replace b1 := cellKeep hb b1
    replace HW := Lib.hid (HW.out.trans (hb.mono HW.out.size))
    clear hb
    go_wp2_with fail
    go_ret
    exact ⟨rfl, HW.out⟩
  case pos =>
    rw [decide_eq_true hk]
    subst hk
    obtain ⟨n, rfl, hn1, hn, hlen, hin, hy4, hyin⟩ := images_of hy.symm
    have h3 := Lib.hid (fun W h h' h'' => satisfies_c n A c xs B d ys hn1 hn hlen hin hy4 hyin (ys.length : Int) D e0 rs W h h' h'' hl (fit_of hx.symm hs))
    rw [Int.toNat_natCast]
    clear hx hy hlen hin hyin hs
    generalize rs.any (M.misfit n xs ys) = v at *
    go_enter Try.func38, Try.ntmps38
    go_wp2_with fail
    refine (h1.out _ (HD.out.below (bt _ _))).mono ?_
    rintro e w1 ⟨rfl, hb⟩
    have a0 : w1.cell? ⟨w.heap.size, 0, none⟩ = some (.int .i64 (ys.length : Nat)) := cellKeep hb (by simp [go_sem])
    have a1 : w1.cell? ⟨w.heap.size, 1, none⟩ = some (.slice D rs.length e0) := cellKeep hb (by simp [go_sem])
    have b0 : w1.cell? ⟨w.heap.size + 1, 0, none⟩ = some (.int .i64 n) := cellKeep hb (by simp [go_sem])
    have b1 : w1.cell? ⟨w.heap.size + 1, 1, none⟩ = some (.slice A xs.length c) := cellKeep hb (by simp [go_sem])
    have HW := Lib.hid (below_alloc2 hb)
    clear hb
    go_wp2_with fail
    refine (h2.out _ (HA.out.below HW.out) (HB.out.below HW.out)).mono ?_
    rintro e w2 ⟨rfl, hb⟩
    replace a0 := cellKeep hb a0
    replace a1 := cellKeep hb a1
    replace b0 := cellKeep hb b0
    replace b1 := cellKeep hb b1
    replace HW := Lib.hid (HW.out.trans (hb.mono HW.out.size))
    clear hb
    go_wp2_with fail
    refine (h3.out _ (HA.out.below HW.out) (HB.out.below HW.out) (HD.out.below HW.out)).mono ?_
    rintro e w3 ⟨rfl, hb⟩
    go_wp2_with fail
    go_ret
    exact ⟨by simp, HW.out.trans (hb.mono HW.out.size)⟩
set_option maxRecDepth 100000 in
set_option maxHeartbeats 4000000 in
theorem spec_SatisfiesRules_c (k : Int) (D : Option Addr) (e0 : Nat) (rs : List M.Rule) (n0 : Int) (A : Option Addr) (c : Nat) (xs : List Int) (B : Option Addr) (d : Nat) (ys : List Int) (w : World) (hD : Rd w 2 D rs.length (ruls rs)) (hA : Rd w 1 A xs.length (ints xs)) (hB : Rd w 1 B ys.length (ints ys)) (hl : rs.length ≤ 1048576) (hs : ∀ r ∈ rs, r.left.length ≤ 1048576 ∧ r.right.length ≤ 1048576) (hl1 : xs.length ≤ 1048576) (hl2 : ys.length ≤ 1048576) :
    Calls Try.prog 36 #[.agg #[.int .i64 k, .slice D rs.length e0], .agg #[.int .i64 n0, .slice A xs.length c], .slice B ys.length d] w fun e w' => e = .returned (.bool (M.SatisfiesRules k rs n0 xs ys)) ∧ Below w.heap.size w w' := by
  unfold M.SatisfiesRules
  have bt := below_two w
  have HA := Lib.hid hA
  have HB := Lib.hid hB
  have HD := Lib.hid hD
  have h1 := Lib.hid (fun W h => spec_RulesOk_c k D e0 rs W h hl hs)
  have h2 := Lib.hid (fun W h h' => spec_ImagesOk_c n0 A c xs B d ys W h h' hl1 hl2)
  clear hA hB hD
  obtain ⟨x, hx⟩ : ∃ x, x = M.RulesOk k rs := ⟨_, rfl⟩
  rw [← hx] at h1 ⊢
  cases x
  case false =>
    clear hx
    go_enter Try.func36, Try.ntmps36
    go_wp2_with fail
    refine (h1.out _ (HD.out.below (bt _ _))).mono ?_
    rintro e w1 ⟨rfl, hb⟩
    go_wp2_with fail
    go_ret
    exact ⟨rfl, below_alloc2 hb⟩
  case true =>
  obtain ⟨y, hy⟩ : ∃ y, y = M.ImagesOk n0 xs ys := ⟨_, rfl⟩
  rw [← hy] at h2 ⊢
  cases y
  case false =>
    clear hx hy
    go_enter Try.func36, Try.ntmps36
    go_wp2_with fail
    refine (h1.out _ (HD.out.below (bt _ _))).mono ?_
    rintro e w1 ⟨rfl, hb⟩
    have a0 : w1.cell? ⟨w.heap.size, 0, none⟩ = some (.int .i64 k) := cellKeep hb (by simp [go_sem])
    have a1 : w1.cell? ⟨w.heap.size, 1, none⟩ = some (.slice D rs.length e0) := cellKeep hb (by simp [go_sem])
    have b0 : w1.cell? ⟨w.heap.size + 1, 0, none⟩ = some (.int .i64 n0) := cellKeep hb (by simp [go_sem])
    have b1 : w1.cell? ⟨w.heap.size + 1, 1, none⟩ = some (.slice A xs.length c) := cellKeep hb (by simp [go_sem])
    have HW := Lib.hid (below_alloc2 hb)
    clear hb
    go_wp2_with fail
    refine (h2.out _ (HA.out.below HW.out) (HB.out.below HW.out)).mono ?_
    rintro e w2 ⟨rfl, hb⟩
    go_wp2_with fail
    go_ret
    exact ⟨rfl, HW.out.trans (hb.mono HW.out.size)⟩
  case true =>
  by_cases hk : (ys.length : Int) = k
  case neg =>
    have hk' : ((ys.length : Int) == k) = false := by simpa using hk
    rw [decide_eq_false hk]
    clear hx hy hk
    go_enter Try.func36, Try.ntmps36
    go_wp2_with fail
    refine (h1.out _ (HD.out.below (bt _ _))).mono ?_
    rintro e w1 ⟨rfl, hb⟩
    have a0 : w1.cell? ⟨w.heap.size, 0, none⟩ = some (.int .i64 k) := cellKeep hb (by simp [go_sem])
    have a1 : w1.cell? ⟨w.heap.size, 1, none⟩ = some (.slice D rs.length e0) := cellKeep hb (by simp [go_sem])
    have b0 : w1.cell? ⟨w.heap.size + 1, 0, none⟩ = some (.int .i64 n0) := cellKeep hb (by simp [go_sem])
    have b1 : w1.cell? ⟨w.heap.size + 1, 1, none⟩ = some (.slice A xs.length c) := cellKeep hb (by simp [go_sem])
    have HW := Lib.hid (below_alloc2 hb)
    clear hb
    go_wp2_with fail
    refine (h2.out _ (HA.out.below HW.out) (HB.out.below HW.out)).mono ?_
    rintro e w2 ⟨rfl, hb⟩
    replace a0 := cellKeep hb a0
    replace a1 := cellKeep hb a1
    replace b0 := cellKeep hb b0
    replace b1 := cellKeep hb b1
    replace HW := Lib.hid (HW.out.trans (hb.mono HW.out.size))
    clear hb
    go_wp2_with fail
    go_ret
    exact ⟨rfl, HW.out⟩
  case pos =>
    rw [decide_eq_true hk]
    subst hk
    obtain ⟨n, rfl, hn1, hn, hlen, hin, hy4, hyin⟩ := images_of hy.symm
    have h3 := Lib.hid (fun W h h' h'' => l11Fits_c n A c xs B d ys hn1 hn hlen hin hy4 hyin (ys.length : Int) D e0 rs W h h' h'' hl (fit_of hx.symm hs))
    rw [Int.toNat_natCast]
    clear hx hy hlen hin hyin hs
    generalize rs.any (M.misfit n xs ys) = v at *
    go_enter Try.func36, Try.ntmps36
    go_wp2_with fail
    refine (h1.out _ (HD.out.below (bt _ _))).mono ?_
    rintro e w1 ⟨rfl, hb⟩
    have a0 : w1.cell? ⟨w.heap.size, 0, none⟩ = some (.int .i64 (ys.length : Nat)) := cellKeep hb (by simp [go_sem])
    have a1 : w1.cell? ⟨w.heap.size, 1, none⟩ = some (.slice D rs.length e0) := cellKeep hb (by simp [go_sem])
    have b0 : w1.cell? ⟨w.heap.size + 1, 0, none⟩ = some (.int .i64 n) := cellKeep hb (by simp [go_sem])
    have b1 : w1.cell? ⟨w.heap.size + 1, 1, none⟩ = some (.slice A xs.length c) := cellKeep hb (by simp [go_sem])
    have HW := Lib.hid (below_alloc2 hb)
    clear hb
    go_wp2_with fail
    refine (h2.out _ (HA.out.below HW.out) (HB.out.below HW.out)).mono ?_
    rintro e w2 ⟨rfl, hb⟩
    replace a0 := cellKeep hb a0
    replace a1 := cellKeep hb a1
    replace b0 := cellKeep hb b0
    replace b1 := cellKeep hb b1
    replace HW := Lib.hid (HW.out.trans (hb.mono HW.out.size))
    clear hb
    go_wp2_with fail
    refine (h3.out _ (HA.out.below HW.out) (HB.out.below HW.out) (HD.out.below HW.out)).mono ?_
    rintro e w3 ⟨rfl, hb⟩
    go_wp2_with fail
    go_ret
    exact ⟨by simp, HW.out.trans (hb.mono HW.out.size)⟩

end Go.Proofs.Ytgcmdebkgkepoaa
