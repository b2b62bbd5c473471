/-
  Contracts of LeastIdeal.
  Conditions: at most 2^20 entries.
-/
import Derived.Test.YtlohpphmamapeaaIdealS
import Derived.Test.YtlohpphmamapeaaTabOk2
import Derived.Test.YtlohpphmamapeaaThose
namespace Go.Proofs.Ytlohpphmamapeaa
open Go.RowKit
set_option linter.unusedVariables false
set_option linter.unusedSimpArgs false

def M.bestTo (n : Nat) (xs : List Int) : Nat → List Int
  | 0 => M.ideal n xs 3 0
  | i + 1 => if (M.ideal n xs 3 i).length < (M.bestTo n xs i).length then M.ideal n xs 3 i else M.bestTo n xs i
def M.LeastIdeal (k : Int) (xs : List Int) : List Int := if M.TableOk k xs = true then M.bestTo k.toNat xs k.toNat else []
theorem best_len (n : Nat) (xs : List Int) : ∀ i, (M.bestTo n xs i).length ≤ n
  | 0 => ideal_len _ _ _ _
  | i + 1 => by
    rw [M.bestTo]
    split
    · exact ideal_len _ _ _ _
    · exact best_len n xs i
theorem least_len (k : Int) (xs : List Int) : (M.LeastIdeal k xs).length ≤ 40 := by
  unfold M.LeastIdeal
  split
  · rename_i h
    have h1 := (tableOk_of h).1
    exact Nat.le_trans (best_len _ _ _) (by omega)
  · simp
theorem best_one (n : Nat) (xs : List Int) : M.bestTo n xs 1 = M.ideal n xs 3 0 := by
  rw [M.bestTo]
  have e : M.bestTo n xs 0 = M.ideal n xs 3 ((0 : Nat) : Int) := rfl
  rw [e]
  split <;> rfl
theorem best_less {n : Nat} {xs : List Int} {i : Nat} (h : (M.ideal n xs 3 i).length < (M.bestTo n xs i).length) : M.bestTo n xs (i + 1) = M.ideal n xs 3 i := by rw [M.bestTo, if_pos h]
theorem best_keep {n : Nat} {xs : List Int} {i : Nat} (h : ¬ (M.ideal n xs 3 i).length < (M.bestTo n xs i).length) : M.bestTo n xs (i + 1) = M.bestTo n xs i := by rw [M.bestTo, if_neg h]

set_option maxRecDepth 100000 in
set_option maxHeartbeats 2000000 in
theorem impl_LeastIdeal_c (k : Int) (A : Option Addr) (c : Nat) (xs : List Int) (w : World) (hA : Rd w 1 A xs.length (ints xs)) (hl : xs.length ≤ 1048576) :
    Calls Try.prog 36 #[.agg #[.int .i64 k, .slice A xs.length c]] w (RetRd (fun A c => .slice A (M.LeastIdeal k xs).length c) 1 (M.LeastIdeal k xs).length (ints (M.LeastIdeal k xs)) w) := by
  have HA := Lib.hid hA
  have h1 := Lib.hid (fun W h => impl_TableOk_c k A c xs W h hl)
  have HP := Lib.hid (fun (o : Obj) => (Below.refl w.heap.size w).alloc (Nat.le_refl _) o)
  unfold M.LeastIdeal
  obtain ⟨q, hq⟩ : ∃ q, q = M.TableOk k xs := ⟨_, rfl⟩
  rw [← hq] at h1 ⊢
  cases q
  case false =>
    rw [if_neg (by simp)]
    clear hA hq
    go_enter Try.func36, Try.ntmps36
    go_wp2_with fail
    refine (h1.out _ (HA.out.below (HP.out _))).mono ?_
    rintro e w1 ⟨rfl, hb⟩
    go_wp2_with fail
    go_ret
    exact ⟨none, 0, rfl, ⟨rfl, fun h => absurd h (by simp)⟩, below_alloc1 hb⟩
  case true =>
  rw [if_pos rfl]
  obtain ⟨⟨hk1, hk2⟩, hlen, hP, _⟩ := tableOk_of hq.symm
  obtain ⟨n, rfl⟩ : ∃ n : Nat, k = n := ⟨k.toNat, by omega⟩
  simp only [Int.toNat_natCast] at hlen hP ⊢
  have HID := Lib.hid (fun i W h (hi : 0 ≤ i ∧ i < (n : Int)) => ideal_c n A c xs i 3 W h (by omega) (by omega) hlen hP hi (Or.inr (Or.inr rfl)))
  have HBL := Lib.hid (fun i => best_len n xs i)
  have HIL := Lib.hid (fun i => ideal_len n xs 3 i)
  clear hq hA hP
  generalize xs.length = xl at *
  clear hlen
  go_enter Try.func36, Try.ntmps36
  go_wp2_with fail
  refine (h1.out _ (HA.out.below (HP.out _))).mono ?_
  rintro e w1 ⟨rfl, hb⟩
  have c0 : w1.cell? ⟨w.heap.size, 0, none⟩ = some (.int .i64 n) := cellKeep hb (by simp [go_sem])
  have c1 : w1.cell? ⟨w.heap.size, 1, none⟩ = some (.slice A xl c) := cellKeep hb (by simp [go_sem])
  have T1 := Lib.hid (below_alloc1 hb)
  clear hb
  go_wp2_with fail
  refine (HID.out 0 _ (HA.out.below T1.out) (by omega)).mono ?_
  rintro e w2 ⟨A2, c2, rfl, ho, hb⟩
  have C0 := Lib.hid (cellKeep hb c0)
  have C1 := Lib.hid (cellKeep hb c1)
  have T2 := Lib.hid (T1.out.trans (hb.mono T1.out.size))
  have HO2 := Lib.hid (ho.mono (base' := w.heap.size) T1.out.size)
  have HB0 := Lib.hid (show M.bestTo n xs 0 = M.ideal n xs 3 0 from rfl)
  clear ho hb c0 c1
  have c0 := C0.out
  go_wp2_with fail
  clear c0
  go_loopw [3, 13] (fun s z wr => ∃ (i : Nat) (A' : Option Addr) (c' m : Nat), i ≤ n ∧ z = .int .i64 i ∧ s = .slice A' m c' ∧ m = (M.bestTo n xs i).length ∧ Own wr w.heap.size 1 A' m (ints (M.bestTo n xs i)) ∧ Below w2.heap.size w2 wr) (fun _ z _ => n - (intOf z).toNat)
  case atStart => exact ⟨0, A2, c2, _, by omega, rfl, rfl, by rw [HB0.out], by rw [HB0.out]; exact HO2.out, Below.refl _ _⟩
  case round =>
    obtain ⟨i, A', c', m, hi, rfl, rfl, hm, hown, hb⟩ := hrel
    have HM := Lib.hid hm
    have HO := Lib.hid hown
    have HB := Lib.hid hb
    have hml : m ≤ 40 := by have := HBL.out i; omega
    clear hm hown hb
    have c0 := cellKeep HB.out C0.out
    have c1 := cellKeep HB.out C1.out
    by_cases hlt : i < n
    case neg =>
      obtain rfl : i = n := by omega
      go_wp2_with fail
      go_ret
      exact ⟨A', c', by rw [HM.out]; rfl, by rw [← HM.out]; exact HO.out, T2.out.trans (HB.out.mono T2.out.size)⟩
    case pos =>
      have hil := HIL.out (i : Int)
      have HI := Lib.hid (HID.out i wr (HA.out.below (T2.out.trans (HB.out.mono T2.out.size))) (by omega))
      by_cases hless : (M.ideal n xs 3 i).length < m
      all_goals
        first
        | have HS := Lib.hid (best_less (n := n) (xs := xs) (i := i) (by rw [← HM.out]; exact hless))
        | have HS := Lib.hid (best_keep (n := n) (xs := xs) (i := i) (by rw [← HM.out]; exact hless))
        generalize M.ideal n xs 3 i = d at *
        have hz1 : d.length ≤ 40 := by omega
        go_wp2_with fail
        refine HI.out.mono ?_
        rintro e w3 ⟨A3, c3, rfl, ho, hb⟩
        have HO3 := Lib.hid (HO.out.below hb)
        have HD3 := Lib.hid (ho.mono (base' := w.heap.size) (by have := T2.out.size; have := HB.out.size; omega))
        have HB3 := Lib.hid (HB.out.trans (hb.mono HB.out.size))
        clear ho hb c0 c1
        go_wp2_with fail
        go_roundw
        case rel => first | exact ⟨i + 1, A3, c3, d.length, by omega, by go_num, rfl, by rw [HS.out], by rw [HS.out]; exact HD3.out, HB3.out⟩ | exact ⟨i + 1, A', c', m, by omega, by go_num, rfl, by rw [HS.out, ← HM.out], by rw [HS.out]; exact HO3.out, HB3.out⟩
        case measure => simp [intOf] <;> omega
set_option maxRecDepth 100000 in
set_option maxHeartbeats 2000000 in
theorem spec_LeastIdeal_c (k : Int) (A : Option Addr) (c : Nat) (xs : List Int) (w : World) (hA : Rd w 1 A xs.length (ints xs)) (hl : xs.length ≤ 1048576) :
    Calls Try.prog 35 #[.agg #[.int .i64 k, .slice A xs.length c]] w (RetRd (fun A c => .slice A (M.LeastIdeal k xs).length c) 1 (M.LeastIdeal k xs).length (ints (M.LeastIdeal k xs)) w) := by
  have HA := Lib.hid hA
  have h1 := Lib.hid (fun W h => spec_TableOk_c k A c xs W h hl)
  have HP := Lib.hid (fun (o : Obj) => (Below.refl w.heap.size w).alloc (Nat.le_refl _) o)
  unfold M.LeastIdeal
  obtain ⟨q, hq⟩ : ∃ q, q = M.TableOk k xs := ⟨_, rfl⟩
  rw [← hq] at h1 ⊢
  cases q
  case false =>
    rw [if_neg (by simp)]
    clear hA hq
    go_enter Try.func35, Try.ntmps35
    go_wp2_with fail
    refine (h1.out _ (HA.out.below (HP.out _))).mono ?_
    rintro e w1 ⟨rfl, hb⟩
    go_wp2_with fail
    go_ret
    exact ⟨none, 0, rfl, ⟨rfl, fun h => absurd h (by simp)⟩, below_alloc1 hb⟩
  case true =>
  rw [if_pos rfl]
  obtain ⟨⟨hk1, hk2⟩, hlen, hP, _⟩ := tableOk_of hq.symm
  obtain ⟨n, rfl⟩ : ∃ n : Nat, k = n := ⟨k.toNat, by omega⟩
  simp only [Int.toNat_natCast] at hlen hP ⊢
  have HID := Lib.hid (fun i W h (hi : 0 ≤ i ∧ i < (n : Int)) => l09Ideal_c n A c xs i 3 W h (by omega) (by omega) hlen hP hi (Or.inr (Or.inr rfl)))
  have HLI := Lib.hid (fun i r W h => show Calls Try.prog 70 #[.slice (some ⟨r, 0, none⟩) n n] W (RetRow 3 1 (M.ideal n xs 3 i).length (ints (M.ideal n xs 3 i)) W) from l09List_c (fun z => (M.rawTo n xs 3 i n).contains (z : Int)) (some ⟨r, 0, none⟩) n n W h (by omega))
  have HBL := Lib.hid (fun i => best_len n xs i)
  have HIL := Lib.hid (fun i => ideal_len n xs 3 i)
  clear hq hA hP
  generalize xs.length = xl at *
  clear hlen
  go_enter Try.func35, Try.ntmps35
  go_wp2_with fail
  refine (h1.out _ (HA.out.below (HP.out _))).mono ?_
  rintro e w1 ⟨rfl, hb⟩
  have c0 : w1.cell? ⟨w.heap.size, 0, none⟩ = some (.int .i64 n) := cellKeep hb (by simp [go_sem])
  have c1 : w1.cell? ⟨w.heap.size, 1, none⟩ = some (.slice A xl c) := cellKeep hb (by simp [go_sem])
  have T1 := Lib.hid (below_alloc1 hb)
  clear hb
  go_wp2_with fail
  refine (HID.out 0 _ (HA.out.below T1.out) (by omega)).mono ?_
  rintro e w2' ⟨r, rfl, ho, hb⟩
  have HR := Lib.hid (HLI.out 0 r _ ho.rd)
  replace c0 := cellKeep hb c0
  replace c1 := cellKeep hb c1
  have T2' := Lib.hid (T1.out.trans (hb.mono T1.out.size))
  clear ho hb
  go_wp2_with fail
  refine HR.out.mono ?_
  rintro e w2 ⟨A2, c2, rfl, ho, hb⟩
  have C0 := Lib.hid (cellKeep hb c0)
  have C1 := Lib.hid (cellKeep hb c1)
  have T2 := Lib.hid (T2'.out.trans (hb.mono T2'.out.size))
  have HO2 := Lib.hid ((Own.of_row ho).mono (base' := w.heap.size) T2'.out.size)
  have HB0 := Lib.hid (best_one n xs)
  clear ho hb c0 c1
  go_wp2_with fail
  go_loopw [3, 4] (fun s z wr => ∃ (i : Nat) (A' : Option Addr) (c' m : Nat), 1 ≤ i ∧ i ≤ n ∧ z = .int .i64 i ∧ s = .slice A' m c' ∧ m = (M.bestTo n xs i).length ∧ Own wr w.heap.size 1 A' m (ints (M.bestTo n xs i)) ∧ Below w2.heap.size w2 wr) (fun _ z _ => n - (intOf z).toNat)
  case atStart => exact ⟨1, A2, c2, _, by omega, by omega, rfl, rfl, by rw [HB0.out], by rw [HB0.out]; exact HO2.out, Below.refl _ _⟩
  case round =>
    obtain ⟨i, A', c', m, hi1, hi, rfl, rfl, hm, hown, hb⟩ := hrel
    have HM := Lib.hid hm
    have HO := Lib.hid hown
    have HB := Lib.hid hb
    have hml : m ≤ 40 := by have := HBL.out i; omega
    clear hm hown hb
    have c0 := cellKeep HB.out C0.out
    have c1 := cellKeep HB.out C1.out
    by_cases hlt : i < n
    case neg =>
      obtain rfl : i = n := by omega
      go_wp2_with fail
      go_ret
      exact ⟨A', c', by rw [HM.out]; rfl, by rw [← HM.out]; exact HO.out, T2.out.trans (HB.out.mono T2.out.size)⟩
    case pos =>
      have hil := HIL.out (i : Int)
      have HI := Lib.hid (HID.out i wr (HA.out.below (T2.out.trans (HB.out.mono T2.out.size))) (by omega))
      have HLI2 := Lib.hid (HLI.out (i : Int))
      by_cases hless : (M.ideal n xs 3 i).length < m
      all_goals
        first
        | have HS := Lib.hid (best_less (n := n) (xs := xs) (i := i) (by rw [← HM.out]; exact hless))
        | have HS := Lib.hid (best_keep (n := n) (xs := xs) (i := i) (by rw [← HM.out]; exact hless))
        generalize M.ideal n xs 3 i = d at *
        have hz1 : d.length ≤ 40 := by omega
        go_wp2_with fail
        refine HI.out.mono ?_
        rintro e w3' ⟨r3, rfl, ho, hb⟩
        have HR3 := Lib.hid (HLI2.out r3 _ ho.rd)
        have HO3' := Lib.hid (HO.out.below hb)
        have HB3' := Lib.hid (HB.out.trans (hb.mono HB.out.size))
        clear ho hb c0 c1
        go_wp2_with fail
        refine HR3.out.mono ?_
        rintro e w3 ⟨A3, c3, rfl, ho, hb⟩
        have HO3 := Lib.hid (HO3'.out.below hb)
        have HD3 := Lib.hid ((Own.of_row ho).mono (base' := w.heap.size) (by have := T2.out.size; have := HB3'.out.size; omega))
        have HB3 := Lib.hid (HB3'.out.trans (hb.mono HB3'.out.size))
        clear ho hb
        go_wp2_with fail
        go_roundw
        case rel => first | exact ⟨i + 1, A3, c3, d.length, by omega, by omega, by go_num, rfl, by rw [HS.out], by rw [HS.out]; exact HD3.out, HB3.out⟩ | exact ⟨i + 1, A', c', m, by omega, by omega, by go_num, rfl, by rw [HS.out, ← HM.out], by rw [HS.out]; exact HO3.out, HB3.out⟩
        case measure => simp [intOf] <;> omega
end Go.Proofs.Ytlohpphmamapeaa
