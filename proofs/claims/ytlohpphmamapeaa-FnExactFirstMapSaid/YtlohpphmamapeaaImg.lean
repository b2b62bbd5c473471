/-
  Contracts of ImagesOk.
  Conditions: at most 2^20 entries.
-/
import Derived.Test.YtlohpphmamapeaaTabOk2
namespace Go.Proofs.Ytlohpphmamapeaa
open Go.RowKit
set_option linter.unusedVariables false

def M.ImagesOk (k : Int) (xs ys : List Int) : Bool := M.TableOk k xs && (M.within ys.length 1 4 && !ys.any (M.outOf 0 (k - 1)))
theorem size_of {k : Int} {xs : List Int} (h : M.TableOk k xs = true) : 1 ≤ k ∧ k ≤ 40 := (of_decide_eq_true h : M.TableQ k xs).1
set_option maxRecDepth 100000 in
set_option maxHeartbeats 4000000 in
theorem impl_ImagesOk_c (k : Int) (A : Option Addr) (c : Nat) (xs : List Int) (B : Option Addr) (d : Nat) (ys : List Int) (w : World) (hA : Rd w 1 A xs.length (ints xs)) (hB : Rd w 1 B ys.length (ints ys)) (hl : xs.length ≤ 1048576) (hl2 : ys.length ≤ 1048576) :
    Calls Try.prog 71 #[.agg #[.int .i64 k, .slice A xs.length c], .slice B ys.length d] w fun e w' => e = .returned (.bool (M.ImagesOk k xs ys)) ∧ Below w.heap.size w w' := by
  unfold M.ImagesOk
  have h1 := Lib.hid (fun W h => impl_TableOk_c k A c xs W h hl)
  have HA := Lib.hid hA
  have HB := Lib.hid hB
  clear hA hB
  obtain ⟨x, hx⟩ : ∃ x, x = M.TableOk k xs := ⟨_, rfl⟩
  rw [← hx] at h1 ⊢
  cases x
  case false =>
    clear hx
    go_enter Try.func71, Try.ntmps71
    go_wp2_with fail
    refine (h1.out _ (HA.out.below ((Below.refl _ _).alloc (Nat.le_refl _) _))).mono ?_
    rintro e w1 ⟨rfl, hb⟩
    go_wp2_with fail
    go_ret
    exact ⟨rfl, below_alloc1 hb⟩
  case true =>
  have hk := size_of hx.symm
  clear hx
  have h2 := Lib.hid (fun W => within_c (ys.length : Int) 1 4 W)
  have h3 := Lib.hid (fun W h => allWithin_c B d ys 0 (k - 1) W h hl2)
  generalize M.within ys.length 1 4 = y at *
  generalize ys.any (M.outOf 0 (k - 1)) = z at *
  cases y
  case false =>
    go_enter Try.func71, Try.ntmps71
    go_wp2_with fail
    refine (h1.out _ (HA.out.below ((Below.refl _ _).alloc (Nat.le_refl _) _))).mono ?_
    rintro e w1 ⟨rfl, hb⟩
    go_wp2_with fail
    refine (h2.out _).mono ?_
    rintro e w2 ⟨rfl, rfl⟩
    go_wp2_with fail
    go_ret
    exact ⟨rfl, below_alloc1 hb⟩
  case true =>
    go_enter Try.func71, Try.ntmps71
    go_wp2_with fail
    refine (h1.out _ (HA.out.below ((Below.refl _ _).alloc (Nat.le_refl _) _))).mono ?_
    rintro e w1 ⟨rfl, hb⟩
    have d0 : w1.cell? ⟨w.heap.size, 0, none⟩ = some (.int .i64 k) := cellKeep hb (by simp [go_sem])
    have HW := Lib.hid (below_alloc1 hb)
    clear hb
    go_wp2_with fail
    refine (h2.out _).mono ?_
    rintro e w2 ⟨rfl, rfl⟩
    go_wp2_with fail
    refine (h3.out _ (HB.out.below HW.out)).mono ?_
    rintro e w2 ⟨rfl, hb⟩
    go_wp2_with fail
    go_ret
    exact ⟨rfl, HW.out.trans (hb.mono HW.out.size)⟩
set_option maxRecDepth 100000 in
set_option maxHeartbeats 4000000 in
theorem spec_ImagesOk_c (k : Int) (A : Option Addr) (c : Nat) (xs : List Int) (B : Option Addr) (d : Nat) (ys : List Int) (w : World) (hA : Rd w 1 A xs.length (ints xs)) (hB : Rd w 1 B ys.length (ints ys)) (hl : xs.length ≤ 1048576) (hl2 : ys.length ≤ 1048576) :
    Calls Try.prog 68 #[.agg #[.int .i64 k, .slice A xs.length c], .slice B ys.length d] w fun e w' => e = .returned (.bool (M.ImagesOk k xs ys)) ∧ Below w.heap.size w w' := by
  unfold M.ImagesOk
  have h1 := Lib.hid (fun W h => spec_TableOk_c k A c xs W h hl)
  have HA := Lib.hid hA
  have HB := Lib.hid hB
  clear hA hB
  obtain ⟨x, hx⟩ : ∃ x, x = M.TableOk k xs := ⟨_, rfl⟩
  rw [← hx] at h1 ⊢
  cases x
  case false =>
    clear hx
    go_enter Try.func68, Try.ntmps68
    go_wp2_with fail
    refine (h1.out _ (HA.out.below ((Below.refl _ _).alloc (Nat.le_refl _) _))).mono ?_
    rintro e w1 ⟨rfl, hb⟩
    go_wp2_with fail
    go_ret
    exact ⟨rfl, below_alloc1 hb⟩
  case true =>
  have hk := size_of hx.symm
  clear hx
  have h2 := Lib.hid (fun W => l01In_c (ys.length : Int) 1 4 W)
  generalize M.within ys.length 1 4 = y at *
  cases y
  case false =>
    go_enter Try.func68, Try.ntmps68
    go_wp2_with fail
    refine (h1.out _ (HA.out.below ((Below.refl _ _).alloc (Nat.le_refl _) _))).mono ?_
    rintro e w1 ⟨rfl, hb⟩
    go_wp2_with fail
    refine (h2.out _).mono ?_
    rintro e w2 ⟨rfl, rfl⟩
    go_wp2_with fail
    go_ret
    exact ⟨rfl, below_alloc1 hb⟩
  case true =>
    obtain ⟨q, hq⟩ : ∃ q, q = ys.any (M.outOf 0 (k - 1)) := ⟨_, rfl⟩
    rw [← hq]
    have HQ := Lib.hid hq
    obtain ⟨m, hm⟩ : ∃ m, m = ys.length := ⟨_, rfl⟩
    have hmb : m ≤ 1048576 := by omega
    rw [← hm]
    rw [← hm] at h2
    have HM := Lib.hid hm
    clear hq hm hl2
    go_enter Try.func68, Try.ntmps68
    go_wp2_with fail
    refine (h1.out _ (HA.out.below ((Below.refl _ _).alloc (Nat.le_refl _) _))).mono ?_
    rintro e w1 ⟨rfl, hb⟩
    have d0 : w1.cell? ⟨w.heap.size, 0, none⟩ = some (.int .i64 k) := cellKeep hb (by simp [go_sem])
    have HW := Lib.hid (below_alloc1 hb)
    clear hb
    go_wp2_with fail
    refine (h2.out _).mono ?_
    rintro e w2 ⟨rfl, rfl⟩
    go_wp2_with fail
    go_loop [18] (fun z => ∃ i : Nat, i ≤ m ∧ z = .int .i64 i ∧ (ys.drop i).any (M.outOf 0 (k - 1)) = q) (fun z => m - (intOf z).toNat)
    case atStart => exact ⟨0, by omega, rfl, by rw [List.drop_zero, HQ.out]⟩
    case round =>
      obtain ⟨i, hi, rfl, hf⟩ := hrel
      have HF := Lib.hid hf
      clear hf
      by_cases hlt : i < m
      · obtain ⟨b, o, rfl, hz, hc⟩ := (HB.out.below HW.out).intAt (k := i) (by have := HM.out; omega)
        have hd : (ys.drop i).any (M.outOf 0 (k - 1)) = (M.outOf 0 (k - 1) ys[i] || (ys.drop (i + 1)).any (M.outOf 0 (k - 1))) := by rw [List.drop_eq_getElem_cons hz, List.any_cons]
        have HF2 := Lib.hid (hd.symm.trans HF.out)
        have h3 := Lib.hid (fun W => l01In_c ys[i] 0 (k - 1) W)
        clear hd
        generalize ys[i] = r at *
        unfold M.outOf at HF2
        generalize M.within r 0 (k - 1) = v at *
        cases v
        case false =>
          go_wp2_with fail
          refine (h3.out _).mono ?_
          rintro e w2 ⟨rfl, rfl⟩
          go_wp2_with fail
          go_ret
          exact ⟨ret_bool (by have := HF2.out; rw [← this]; rfl), HW.out⟩
        case true =>
          go_wp2_with fail
          refine (h3.out _).mono ?_
          rintro e w2 ⟨rfl, rfl⟩
          go_wp2_with fail
          go_round
          case rel => exact ⟨i + 1, by omega, by go_num, by have := HF2.out; rw [← this]; rfl⟩
          case measure => simp [intOf]; omega
      · have e : q = false := by have := HF.out; rw [List.drop_eq_nil_of_le (by have := HM.out; omega)] at this; exact this.symm
        go_wp2
        go_ret
        exact ⟨ret_bool (by first | rw [e]; rfl | rfl), HW.out⟩

end Go.Proofs.Ytlohpphmamapeaa
