/-
  Contracts of ValueOf.
  Conditions: at most 2^20 entries, words of at most 2^20 bytes.
-/
import Derived.Test.YtgcmdebkgkepoaaVal
namespace Go.Proofs.Ytgcmdebkgkepoaa
open Go.RowKit
set_option linter.unusedVariables false

def M.ValueOf (k : Int) (xs ys : List Int) (l : List UInt8) : Int × Bool := if M.ImagesOk k xs ys && M.WordOk ys.length l then (M.valFrom k.toNat xs ys 0 l, true) else (0, false)
theorem value_no1 {k : Int} {xs ys : List Int} {l : List UInt8} (h : M.ImagesOk k xs ys = false) : M.ValueOf k xs ys l = (0, false) := by unfold M.ValueOf; rw [h]; rfl
theorem value_no2 {k : Int} {xs ys : List Int} {l : List UInt8} (h : M.WordOk ys.length l = false) : M.ValueOf k xs ys l = (0, false) := by unfold M.ValueOf; rw [h, Bool.and_false]; rfl
theorem value_yes {k : Int} {xs ys : List Int} {l : List UInt8} (h : M.ImagesOk k xs ys = true) (h' : M.WordOk ys.length l = true) : M.ValueOf k xs ys l = (M.valFrom k.toNat xs ys 0 l, true) := by unfold M.ValueOf; rw [h, h']; rfl
theorem images_of {k : Int} {xs ys : List Int} (h : M.ImagesOk k xs ys = true) : ∃ n : Nat, k = n ∧ 1 ≤ n ∧ n ≤ 40 ∧ xs.length = n * n ∧ M.InP n xs ∧ ys.length ≤ 4 ∧ M.InP n ys := by
  unfold M.ImagesOk at h
  obtain ⟨h1, h2⟩ := Bool.and_eq_true_iff.1 h
  obtain ⟨h2, h3⟩ := Bool.and_eq_true_iff.1 h2
  obtain ⟨hk, hlen, hin, _⟩ := (of_decide_eq_true h1 : M.TableQ k xs)
  obtain ⟨n, rfl⟩ : ∃ n : Nat, k = n := ⟨k.toNat, by omega⟩
  rw [M.inP_iff] at h3
  refine ⟨n, rfl, by omega, by omega, by simpa using hlen, by simpa using hin, ?_, ?_⟩
  · unfold M.within at h2; simp at h2; omega
  · by_cases hp : M.InP n ys
    · exact hp
    · rw [decide_eq_false hp] at h3; cases h3
theorem word_of {k : Int} {l : List UInt8} (h : M.WordOk k l = true) : M.hasLetters k l = true := by
  unfold M.WordOk at h
  exact (Bool.and_eq_true_iff.1 (Bool.and_eq_true_iff.1 h).2).2
set_option maxRecDepth 100000 in
set_option maxHeartbeats 4000000 in
theorem impl_ValueOf_c (k : Int) (A : Option Addr) (c : Nat) (xs : List Int) (B : Option Addr) (d : Nat) (ys : List Int) (l : List UInt8) (w : World) (hA : Rd w 1 A xs.length (ints xs)) (hB : Rd w 1 B ys.length (ints ys)) (hl : xs.length ≤ 1048576) (hl2 : ys.length ≤ 1048576) (hl3 : l.length ≤ 1048576) :
    Calls Try.prog 27 #[.agg #[.int .i64 k, .slice A xs.length c], .slice B ys.length d, .string ⟨l.toArray⟩] w fun e w' => e = .returned (.tuple #[.int .i64 (M.ValueOf k xs ys l).1, .bool (M.ValueOf k xs ys l).2]) ∧ Below w.heap.size w w' := by
  have h1 := Lib.hid (fun W h h' => impl_ImagesOk_c k A c xs B d ys W h h' hl hl2)
  have HA := Lib.hid hA
  have HB := Lib.hid hB
  clear hA hB
  obtain ⟨x, hx⟩ : ∃ x, x = M.ImagesOk k xs ys := ⟨_, rfl⟩
  rw [← hx] at h1
  cases x
  case false =>
    rw [value_no1 hx.symm]
    clear hx
    go_enter Try.func27, Try.ntmps27
    go_wp2_with fail
    refine (h1.out _ (HA.out.below ((Below.refl _ _).alloc (Nat.le_refl _) _)) (HB.out.below ((Below.refl _ _).alloc (Nat.le_refl _) _))).mono ?_
    rintro e w1 ⟨rfl, hb⟩
    go_wp2_with fail
    go_ret2
    exact ⟨rfl, below_alloc1 hb⟩
  case true =>
  have h2 := Lib.hid (fun W => impl_WordOk_c ys.length l W hl3)
  obtain ⟨y, hy⟩ : ∃ y, y = M.WordOk ys.length l := ⟨_, rfl⟩
  rw [← hy] at h2
  cases y
  case false =>
    rw [value_no2 hy.symm]
    clear hx hy
    go_enter Try.func27, Try.ntmps27
    go_wp2_with fail
    refine (h1.out _ (HA.out.below ((Below.refl _ _).alloc (Nat.le_refl _) _)) (HB.out.below ((Below.refl _ _).alloc (Nat.le_refl _) _))).mono ?_
    rintro e w1 ⟨rfl, hb⟩
    go_wp2_with fail
    refine (h2.out _).mono ?_
    rintro e w2 ⟨rfl, rfl⟩
    go_wp2_with fail
    go_ret2
    exact ⟨rfl, below_alloc1 hb⟩
  case true =>
    rw [value_yes hx.symm hy.symm]
    obtain ⟨n, rfl, hn1, hn, hlen, hin, hy4, hyin⟩ := images_of hx.symm
    have h3 := Lib.hid (fun W h h' => value_c n A c xs B d ys l W h h' hn1 hn hlen hin hy4 hyin (word_of hy.symm) hl3)
    rw [Int.toNat_natCast]
    clear hx hy hlen hin hyin
    generalize M.valFrom n xs ys 0 l = v at *
    go_enter Try.func27, Try.ntmps27
    go_wp2_with fail
    refine (h1.out _ (HA.out.below ((Below.refl _ _).alloc (Nat.le_refl _) _)) (HB.out.below ((Below.refl _ _).alloc (Nat.le_refl _) _))).mono ?_
    rintro e w1 ⟨rfl, hb⟩
    have d0 : w1.cell? ⟨w.heap.size, 0, none⟩ = some (.int .i64 n) := cellKeep hb (by simp [go_sem])
    have d1 : w1.cell? ⟨w.heap.size, 1, none⟩ = some (.slice A xs.length c) := cellKeep hb (by simp [go_sem])
    have HW := Lib.hid (below_alloc1 hb)
    clear hb
    go_wp2_with fail
    refine (h2.out _).mono ?_
    rintro e w2 ⟨rfl, rfl⟩
    go_wp2_with fail
    refine (h3.out _ (HA.out.below HW.out) (HB.out.below HW.out)).mono ?_
    rintro e w2 ⟨rfl, hb⟩
    go_wp2_with fail
    go_ret2
    exact ⟨rfl, HW.out.trans (hb.mono HW.out.size)⟩
set_option maxRecDepth 100000 in
set_option maxHeartbeats 4000000 in
theorem spec_ValueOf_c (k : Int) (A : Option Addr) (c : Nat) (xs : List Int) (B : Option Addr) (d : Nat) (ys : List Int) (l : List UInt8) (w : World) (hA : Rd w 1 A xs.length (ints xs)) (hB : Rd w 1 B ys.length (ints ys)) (hl : xs.length ≤ 1048576) (hl2 : ys.length ≤ 1048576) (hl3 : l.length ≤ 1048576) :
    Calls Try.prog 26 #[.agg #[.int .i64 k, .slice A xs.length c], .slice B ys.length d, .string ⟨l.toArray⟩] w fun e w' => e = .returned (.tuple #[.int .i64 (M.ValueOf k xs ys l).1, .bool (M.ValueOf k xs ys l).2]) ∧ Below w.heap.size w w' := by
  have h1 := Lib.hid (fun W h h' => spec_ImagesOk_c k A c xs B d ys W h h' hl hl2)
  have HA := Lib.hid hA
  have HB := Lib.hid hB
  clear hA hB
  obtain ⟨x, hx⟩ : ∃ x, x = M.ImagesOk k xs ys := ⟨_, rfl⟩
  rw [← hx] at h1
  cases x
  case false =>
    rw [value_no1 hx.symm]
    clear hx
    go_enter Try.func26, Try.ntmps26
    go_wp2_with fail
    refine (h1.out _ (HA.out.below ((Below.refl _ _).alloc (Nat.le_refl _) _)) (HB.out.below ((Below.refl _ _).alloc (Nat.le_refl _) _))).mono ?_
    rintro e w1 ⟨rfl, hb⟩
    go_wp2_with fail
    go_ret2
    exact ⟨rfl, below_alloc1 hb⟩
  case true =>
  have h2 := Lib.hid (fun W => spec_WordOk_c ys.length l W hl3)
  obtain ⟨y, hy⟩ : ∃ y, y = M.WordOk ys.length l := ⟨_, rfl⟩
  rw [← hy] at h2
  cases y
  case false =>
    rw [value_no2 hy.symm]
    clear hx hy
    go_enter Try.func26, Try.ntmps26
    go_wp2_with fail
    refine (h1.out _ (HA.out.below ((Below.refl _ _).alloc (Nat.le_refl _) _)) (HB.out.below ((Below.refl _ _).alloc (Nat.le_refl _) _))).mono ?_
    rintro e w1 ⟨rfl, hb⟩
    go_wp2_with fail
    refine (h2.out _).mono ?_
    rintro e w2 ⟨rfl, rfl⟩
    go_wp2_with fail
    go_ret2
    exact ⟨rfl, below_alloc1 hb⟩
  case true =>
    rw [value_yes hx.symm hy.symm]
    obtain ⟨n, rfl, hn1, hn, hlen, hin, hy4, hyin⟩ := images_of hx.symm
    have h3 := Lib.hid (fun W h h' => l11Value_c n A c xs B d ys l W h h' hn1 hn hlen hin hy4 hyin (word_of hy.symm) hl3)
    rw [Int.toNat_natCast]
    clear hx hy hlen hin hyin
    generalize M.valFrom n xs ys 0 l = v at *
    go_enter Try.func26, Try.ntmps26
    go_wp2_with fail
    refine (h1.out _ (HA.out.below ((Below.refl _ _).alloc (Nat.le_refl _) _)) (HB.out.below ((Below.refl _ _).alloc (Nat.le_refl _) _))).mono ?_
    rintro e w1 ⟨rfl, hb⟩
    have d0 : w1.cell? ⟨w.heap.size, 0, none⟩ = some (.int .i64 n) := cellKeep hb (by simp [go_sem])
    have d1 : w1.cell? ⟨w.heap.size, 1, none⟩ = some (.slice A xs.length c) := cellKeep hb (by simp [go_sem])
    have HW := Lib.hid (below_alloc1 hb)
    clear hb
    go_wp2_with fail
    refine (h2.out _).mono ?_
    rintro e w2 ⟨rfl, rfl⟩
    go_wp2_with fail
    refine (h3.out _ (HA.out.below HW.out) (HB.out.below HW.out)).mono ?_
    rintro e w2 ⟨rfl, hb⟩
    go_wp2_with fail
    go_ret2
    exact ⟨rfl, HW.out.trans (hb.mono HW.out.size)⟩

end Go.Proofs.Ytgcmdebkgkepoaa
