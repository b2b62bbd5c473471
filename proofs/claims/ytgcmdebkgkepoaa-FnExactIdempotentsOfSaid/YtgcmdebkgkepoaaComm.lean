/-
  Contracts of IsCommutative.
  Conditions: at most 2^20 entries.
-/
import Derived.Test.YtgcmdebkgkepoaaTabOk2
namespace Go.Proofs.Ytgcmdebkgkepoaa
open Go.RowKit
set_option linter.unusedVariables false

abbrev M.CommP (n : Nat) (xs : List Int) : Prop := ∀ i, i < n → ∀ j, j < i → M.tI n xs (i : Nat) (j : Nat) = M.tI n xs (j : Nat) (i : Nat)
def M.IsCommutative (k : Int) (xs : List Int) : Bool := M.TableOk k xs && decide (M.CommP k.toNat xs)
theorem tableOk_of {k : Int} {xs : List Int} (h : M.TableOk k xs = true) : M.TableQ k xs := of_decide_eq_true h
set_option maxRecDepth 100000 in
set_option maxHeartbeats 4000000 in
theorem impl_IsCommutative_c (k : Int) (A : Option Addr) (c : Nat) (xs : List Int) (w : World) (hA : Rd w 1 A xs.length (ints xs)) (hl : xs.length ≤ 1048576) :
    Calls Try.prog 25 #[.agg #[.int .i64 k, .slice A xs.length c]] w fun e w' => e = .returned (.bool (M.IsCommutative k xs)) ∧ Below w.heap.size w w' := by
  unfold M.IsCommutative
  have h1 := Lib.hid (fun W h => impl_TableOk_c k A c xs W h hl)
  have HA := Lib.hid hA
  clear hA
  obtain ⟨x, hx⟩ : ∃ x, x = M.TableOk k xs := ⟨_, rfl⟩
  rw [← hx] at h1 ⊢
  cases x
  case false =>
    clear hx
    go_enter Try.func25, Try.ntmps25
    go_wp2_with fail
    refine (h1.out _ (HA.out.below ((Below.refl _ _).alloc (Nat.le_refl _) _))).mono ?_
    rintro e w1 ⟨rfl, hb⟩
    go_wp2_with fail
    go_ret
    exact ⟨rfl, below_alloc1 hb⟩
  case true =>
  obtain ⟨hk, hlen0, hin0, _⟩ := tableOk_of hx.symm
  clear hx
  rw [Bool.true_and]
  obtain ⟨n, rfl⟩ : ∃ n : Nat, k = n := ⟨k.toNat, by omega⟩
  simp only [Int.toNat_natCast] at hlen0 hin0 ⊢
  have hn : n ≤ 40 := by omega
  have HT := Lib.hid (fun x y W h hx hy => times_c n A c xs x y W h hn hlen0 hx hy)
  obtain ⟨q, hq⟩ : ∃ q, q = decide (M.CommP n xs) := ⟨_, rfl⟩
  rw [← hq]
  have HYES := Lib.hid (fun (h : M.CommP n xs) => hq.trans (decide_eq_true h))
  have HNOT := Lib.hid (fun (h : ¬ M.CommP n xs) => hq.trans (decide_eq_false h))
  clear hq hlen0 hin0 hk hl
  go_enter Try.func25, Try.ntmps25
  go_wp2_with fail
  refine (h1.out _ (HA.out.below ((Below.refl _ _).alloc (Nat.le_refl _) _))).mono ?_
  rintro e w1 ⟨rfl, hb⟩
  have d0 : w1.cell? ⟨w.heap.size, 0, none⟩ = some (.int .i64 n) := cellKeep hb (by simp [go_sem])
  have d1 : w1.cell? ⟨w.heap.size, 1, none⟩ = some (.slice A xs.length c) := cellKeep hb (by simp [go_sem])
  have HB := Lib.hid (below_alloc1 hb)
  clear hb
  go_wp2_with fail
  go_loopw [10] (fun z wr => ∃ i : Nat, i ≤ n ∧ z = .int .i64 i ∧ (∀ i', i' < i → ∀ j, j < i' → M.tI n xs (i' : Nat) (j : Nat) = M.tI n xs (j : Nat) (i' : Nat)) ∧ wr.cell? ⟨w.heap.size, 0, none⟩ = some (.int .i64 n) ∧ wr.cell? ⟨w.heap.size, 1, none⟩ = some (.slice A xs.length c) ∧ Below w.heap.size w wr) (fun z _ => n - (intOf z).toNat)
  case atStart => exact ⟨0, by omega, rfl, fun i' h => absurd h (by omega), d0, d1, HB.out⟩
  case round =>
    clear d0 d1 HB
    obtain ⟨i, hi, rfl, hrow, c0, c1, hb⟩ := hrel
    have HROW := Lib.hid hrow
    have HB := Lib.hid hb
    clear hrow hb
    by_cases hlt : i < n
    case neg =>
      go_wp2
      go_ret
      exact ⟨ret_bool (HYES.out (fun j hj => HROW.out j (by omega))).symm, HB.out⟩
    case pos =>
    have hi0 : 0 ≤ (i : Int) ∧ (i : Int) < n := by omega
    go_wp2
    go_loopw [14] (fun z wr => ∃ j : Nat, j ≤ i ∧ z = .int .i64 j ∧ (∀ j', j' < j → M.tI n xs (i : Nat) (j' : Nat) = M.tI n xs (j' : Nat) (i : Nat)) ∧ wr.cell? ⟨w.heap.size, 0, none⟩ = some (.int .i64 n) ∧ wr.cell? ⟨w.heap.size, 1, none⟩ = some (.slice A xs.length c) ∧ Below w.heap.size w wr) (fun z _ => i - (intOf z).toNat)
    case atStart => exact ⟨0, by omega, rfl, fun i' h => absurd h (by omega), c0, c1, HB.out⟩
    case round =>
      clear c0 c1 HB
      obtain ⟨j, hj, rfl, hcol, c0, c1, hb⟩ := hrel
      have HCOL := Lib.hid hcol
      have HB := Lib.hid hb
      clear hcol hb
      by_cases hltj : j < i
      case neg =>
        go_wp2
        go_roundw
        case rel => exact ⟨i + 1, by omega, by go_num, fun i' h j' hj' => by
          by_cases he : i' = i
          · subst he; exact HCOL.out j' (by omega)
          · exact HROW.out i' (by omega) j' hj', c0, c1, HB.out⟩
        case measure => simp [intOf]; omega
      case pos =>
      have hj0 : 0 ≤ (j : Int) ∧ (j : Int) < n := by omega
      have HF := Lib.hid (fun (h : ¬ M.tI n xs i j = M.tI n xs j i) => HNOT.out (fun q => h (q i hlt j hltj)))
      by_cases has : M.tI n xs i j = M.tI n xs j i
      case neg =>
        have has' : (M.tI n xs i j != M.tI n xs j i) = true := by rw [bne_iff_ne]; exact has
        have HNO := Lib.hid (HF.out has)
        clear has
        go_wp2_with fail
        go_region_held3 (fun w' => w'.cell? ⟨w.heap.size, 0, none⟩ = some (.int .i64 n) ∧ w'.cell? ⟨w.heap.size, 1, none⟩ = some (.slice A xs.length c) ∧ Below wr.heap.size wr w') (first | exact ⟨c0, c1, (Below.refl _ _).drew⟩ | assumption | exact held2 (by assumption) hbt) (first | (go_simp; go_at_call 55; refine (HT.out _ _ _ ((HA.out.below HB.out).below (held2_below (by assumption))) (by assumption) (by assumption)).mono ?_; rintro e wt ⟨rfl, hbt⟩))
        all_goals
          have hh := held2_below (a := wr) (by assumption)
          go_wp2
          go_ret
          exact ⟨ret_bool HNO.out.symm, HB.out.trans (hh.mono HB.out.size)⟩
      case pos =>
        have has' : (M.tI n xs i j != M.tI n xs j i) = false := by rw [bne_eq_false_iff_eq]; exact has
        have HAS := Lib.hid has
        clear has
        go_wp2_with fail
        go_region_held3 (fun w' => w'.cell? ⟨w.heap.size, 0, none⟩ = some (.int .i64 n) ∧ w'.cell? ⟨w.heap.size, 1, none⟩ = some (.slice A xs.length c) ∧ Below wr.heap.size wr w') (first | exact ⟨c0, c1, (Below.refl _ _).drew⟩ | assumption | exact held2 (by assumption) hbt) (first | (go_simp; go_at_call 55; refine (HT.out _ _ _ ((HA.out.below HB.out).below (held2_below (by assumption))) (by assumption) (by assumption)).mono ?_; rintro e wt ⟨rfl, hbt⟩))
        all_goals
          have hS : wt.cell? ⟨w.heap.size, 0, none⟩ = some (.int .i64 n) ∧ wt.cell? ⟨w.heap.size, 1, none⟩ = some (.slice A xs.length c) ∧ Below wr.heap.size wr wt := by assumption
          go_wp2
          go_roundw
          case rel => exact ⟨j + 1, by omega, by go_num, fun j' h => by
            by_cases he : j' = j
            · subst he; exact HAS.out
            · exact HCOL.out j' (by omega), hS.1, hS.2.1, HB.out.trans (hS.2.2.mono HB.out.size)⟩
          case measure => simp [intOf]; omega
set_option maxRecDepth 100000 in
set_option maxHeartbeats 4000000 in
theorem spec_IsCommutative_c (k : Int) (A : Option Addr) (c : Nat) (xs : List Int) (w : World) (hA : Rd w 1 A xs.length (ints xs)) (hl : xs.length ≤ 1048576) :
    Calls Try.prog 24 #[.agg #[.int .i64 k, .slice A xs.length c]] w fun e w' => e = .returned (.bool (M.IsCommutative k xs)) ∧ Below w.heap.size w w' := by
  unfold M.IsCommutative
  have h1 := Lib.hid (fun W h => spec_TableOk_c k A c xs W h hl)
  have HA := Lib.hid hA
  clear hA
  obtain ⟨x, hx⟩ : ∃ x, x = M.TableOk k xs := ⟨_, rfl⟩
  rw [← hx] at h1 ⊢
  cases x
  case false =>
    clear hx
    go_enter Try.func24, Try.ntmps24
    go_wp2_with fail
    refine (h1.out _ (HA.out.below ((Below.refl _ _).alloc (Nat.le_refl _) _))).mono ?_
    rintro e w1 ⟨rfl, hb⟩
    go_wp2_with fail
    go_ret
    exact ⟨rfl, below_alloc1 hb⟩
  case true =>
  obtain ⟨hk, hlen0, hin0, _⟩ := tableOk_of hx.symm
  clear hx
  rw [Bool.true_and]
  obtain ⟨n, rfl⟩ : ∃ n : Nat, k = n := ⟨k.toNat, by omega⟩
  simp only [Int.toNat_natCast] at hlen0 hin0 ⊢
  have hn : n ≤ 40 := by omega
  have HT := Lib.hid (fun x y W h hx hy => l08Times_c n A c xs x y W h hn hlen0 hx hy)
  obtain ⟨q, hq⟩ : ∃ q, q = decide (M.CommP n xs) := ⟨_, rfl⟩
  rw [← hq]
  have HYES := Lib.hid (fun (h : M.CommP n xs) => hq.trans (decide_eq_true h))
  have HNOT := Lib.hid (fun (h : ¬ M.CommP n xs) => hq.trans (decide_eq_false h))
  clear hq hlen0 hin0 hk hl
  go_enter Try.func24, Try.ntmps24
  go_wp2_with fail
  refine (h1.out _ (HA.out.below ((Below.refl _ _).alloc (Nat.le_refl _) _))).mono ?_
  rintro e w1 ⟨rfl, hb⟩
  have d0 : w1.cell? ⟨w.heap.size, 0, none⟩ = some (.int .i64 n) := cellKeep hb (by simp [go_sem])
  have d1 : w1.cell? ⟨w.heap.size, 1, none⟩ = some (.slice A xs.length c) := cellKeep hb (by simp [go_sem])
  have HB := Lib.hid (below_alloc1 hb)
  clear hb
  go_wp2_with fail
  go_loopw [3] (fun z wr => ∃ i : Nat, i ≤ n ∧ z = .int .i64 i ∧ (∀ i', i' < i → ∀ j, j < i' → M.tI n xs (i' : Nat) (j : Nat) = M.tI n xs (j : Nat) (i' : Nat)) ∧ wr.cell? ⟨w.heap.size, 0, none⟩ = some (.int .i64 n) ∧ wr.cell? ⟨w.heap.size, 1, none⟩ = some (.slice A xs.length c) ∧ Below w.heap.size w wr) (fun z _ => n - (intOf z).toNat)
  case atStart => exact ⟨0, by omega, rfl, fun i' h => absurd h (by omega), d0, d1, HB.out⟩
  case round =>
    clear d0 d1 HB
    obtain ⟨i, hi, rfl, hrow, c0, c1, hb⟩ := hrel
    have HROW := Lib.hid hrow
    have HB := Lib.hid hb
    clear hrow hb
    by_cases hlt : i < n
    case neg =>
      go_wp2
      go_ret
      exact ⟨ret_bool (HYES.out (fun j hj => HROW.out j (by omega))).symm, HB.out⟩
    case pos =>
    have hi0 : 0 ≤ (i : Int) ∧ (i : Int) < n := by omega
    go_wp2
    go_loopw [4] (fun z wr => ∃ j : Nat, j ≤ i ∧ z = .int .i64 j ∧ (∀ j', j' < j → M.tI n xs (i : Nat) (j' : Nat) = M.tI n xs (j' : Nat) (i : Nat)) ∧ wr.cell? ⟨w.heap.size, 0, none⟩ = some (.int .i64 n) ∧ wr.cell? ⟨w.heap.size, 1, none⟩ = some (.slice A xs.length c) ∧ Below w.heap.size w wr) (fun z _ => i - (intOf z).toNat)
    case atStart => exact ⟨0, by omega, rfl, fun i' h => absurd h (by omega), c0, c1, HB.out⟩
    case round =>
      clear c0 c1 HB
      obtain ⟨j, hj, rfl, hcol, c0, c1, hb⟩ := hrel
      have HCOL := Lib.hid hcol
      have HB := Lib.hid hb
      clear hcol hb
      by_cases hltj : j < i
      case neg =>
        go_wp2
        go_roundw
        case rel => exact ⟨i + 1, by omega, by go_num, fun i' h j' hj' => by
          by_cases he : i' = i
          · subst he; exact HCOL.out j' (by omega)
          · exact HROW.out i' (by omega) j' hj', c0, c1, HB.out⟩
        case measure => simp [intOf]; omega
      case pos =>
      have hj0 : 0 ≤ (j : Int) ∧ (j : Int) < n := by omega
      have HF := Lib.hid (fun (h : ¬ M.tI n xs i j = M.tI n xs j i) => HNOT.out (fun q => h (q i hlt j hltj)))
      by_cases has : M.tI n xs i j = M.tI n xs j i
      case neg =>
        have has' : (M.tI n xs i j != M.tI n xs j i) = true := by rw [bne_iff_ne]; exact has
        have HNO := Lib.hid (HF.out has)
        clear has
        go_wp2_with fail
        go_region_held3 (fun w' => w'.cell? ⟨w.heap.size, 0, none⟩ = some (.int .i64 n) ∧ w'.cell? ⟨w.heap.size, 1, none⟩ = some (.slice A xs.length c) ∧ Below wr.heap.size wr w') (first | exact ⟨c0, c1, (Below.refl _ _).drew⟩ | assumption | exact held2 (by assumption) hbt) (first | (go_simp; go_at_call 56; refine (HT.out _ _ _ ((HA.out.below HB.out).below (held2_below (by assumption))) (by assumption) (by assumption)).mono ?_; rintro e wt ⟨rfl, hbt⟩))
        all_goals
          have hh := held2_below (a := wr) (by assumption)
          go_wp2
          go_ret
          exact ⟨ret_bool HNO.out.symm, HB.out.trans (hh.mono HB.out.size)⟩
      case pos =>
        have has' : (M.tI n xs i j != M.tI n xs j i) = false := by rw [bne_eq_false_iff_eq]; exact has
        have HAS := Lib.hid has
        clear has
        go_wp2_with fail
        go_region_held3 (fun w' => w'.cell? ⟨w.heap.size, 0, none⟩ = some (.int .i64 n) ∧ w'.cell? ⟨w.heap.size, 1, none⟩ = some (.slice A xs.length c) ∧ Below wr.heap.size wr w') (first | exact ⟨c0, c1, (Below.refl _ _).drew⟩ | assumption | exact held2 (by assumption) hbt) (first | (go_simp; go_at_call 56; refine (HT.out _ _ _ ((HA.out.below HB.out).below (held2_below (by assumption))) (by assumption) (by assumption)).mono ?_; rintro e wt ⟨rfl, hbt⟩))
        all_goals
          have hS : wt.cell? ⟨w.heap.size, 0, none⟩ = some (.int .i64 n) ∧ wt.cell? ⟨w.heap.size, 1, none⟩ = some (.slice A xs.length c) ∧ Below wr.heap.size wr wt := by assumption
          go_wp2
          go_roundw
          case rel => exact ⟨j + 1, by omega, by go_num, fun j' h => by
            by_cases he : j' = j
            · subst he; exact HAS.out
            · exact HCOL.out j' (by omega), hS.1, hS.2.1, HB.out.trans (hS.2.2.mono HB.out.size)⟩
          case measure => simp [intOf]; omega

end Go.Proofs.Ytgcmdebkgkepoaa
