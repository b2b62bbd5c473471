/-
  Contracts of FormatInt.
  Conditions: the table uint64pow10 reads as its initialiser lays it.
-/
import Derived.Test.YtkdccehihpgcdaaDoorMarkC
import Derived.Test.YtkdccehihpgcdaaDoorCard
import Derived.Test.YtkdccehihpgcdaaDoorShelf
import Derived.Lib.ItoaMem
import Derived.Lib.ItoaLen
import Derived.Lib.AppendIntMem
namespace Go.Proofs.YtkdccehihpgcdaaDoor
open Go.RowKit
set_option linter.unusedVariables false

theorem Tab10.below {w w' : World} (h : Tab10 w) (hb : Below w.heap.size w w') : Tab10 w' := Lib.tabBelow_of_tabIs h w' hb
theorem dec_step (m : Nat) (t : List UInt8) (h : 9 < m) : Lib.decDigits (m / 10) ++ (UInt8.ofNat (48 + m % 10) :: t) = Lib.decDigits m ++ t := by
  conv => rhs; rw [Lib.decDigits, dif_neg (by omega)]
  simp
theorem dec_len (u : Nat) (h : u ≤ 9223372036854775808) : (Lib.decDigits u).length ≤ 20 := by
  by_cases h0 : u = 0
  · subst h0; rw [Lib.decDigits, dif_pos (by omega)]; simp
  · have h1 := Lib.itoa_length_le (-(u : Int)) (by omega) (by omega)
    rw [Lib.itoa_neg u (by omega), List.length_cons] at h1
    omega
theorem itoa_len (n : Int) (h0 : -9223372036854775808 ≤ n) (h1 : n ≤ 9223372036854775807) : (Lib.itoa n).length ≤ 21 := Lib.itoa_length_le n h0 h1

set_option maxRecDepth 100000 in
set_option maxHeartbeats 1000000 in
theorem impl_FormatInt_c (n : Int) (w : World) (h0 : -9223372036854775808 ≤ n) (h1 : n ≤ 9223372036854775807) (ht : Tab10 w) : Calls Tryd.prog 10 #[.int .i64 n] w fun e w' => e = .returned (.string ⟨(Lib.itoa n).toArray⟩) ∧ Below w.heap.size w w' := by
  have HC := Lib.hid (Tryd.strconv_Itoa n h0 h1 w ht)
  generalize Lib.itoa n = t at *
  go_enter Tryd.func10, Tryd.ntmps10
  go_wp2_with fail
  refine HC.out.mono ?_
  rintro e w1 ⟨rfl, k, os, rfl⟩
  have hb := Lib.below_grow w.heap.size w (Nat.le_refl _) k os
  go_wp2_with fail
  go_ret
  exact ⟨rfl, hb⟩

set_option maxRecDepth 100000 in
set_option maxHeartbeats 1000000 in
theorem spec_FormatInt_pos (N : Nat) (w : World) (h1 : N ≤ 9223372036854775807) : Calls Tryd.prog 9 #[.int .i64 (N : Int)] w fun e w' => e = .returned (.string ⟨(Lib.decDigits N).toArray⟩) ∧ Below w.heap.size w w' := by
  have HL := Lib.hid (dec_len N (by omega))
  go_enter Tryd.func9, Tryd.ntmps9
  go_wp2
  go_loopw [0, 3] (fun a s wr => ∃ (n : Nat) (acc : List UInt8), n ≤ N ∧ a = .int .i64 n ∧ s = .string ⟨acc.toArray⟩ ∧ Lib.decDigits n ++ acc = Lib.decDigits N ∧ Below w.heap.size w wr) (fun a _ _ => (intOf a).toNat)
  case atStart => exact ⟨N, [], by omega, rfl, rfl, by simp, Below.refl _ _⟩
  case round =>
    obtain ⟨n, acc, hn, rfl, rfl, hd, hb⟩ := hrel
    have hal : acc.length ≤ 20 := by
      have h2 := congrArg List.length hd
      rw [List.length_append] at h2
      have := HL.out
      omega
    have HD := Lib.hid hd
    have HB := Lib.hid hb
    clear hd hb
    by_cases hlt : 9 < n
    · have hc := oneByte wr (48 + (n : Int) % 10) (by omega) (by omega)
      obtain ⟨x, hx⟩ : ∃ x : UInt8, x = UInt8.ofNat (48 + (n : Int) % 10).toNat := ⟨_, rfl⟩
      rw [← hx] at hc
      have hx' : x = UInt8.ofNat (48 + n % 10) := by rw [hx]; congr 1
      have HX := Lib.hid hx'
      clear hx hx'
      go_wp2
      go_roundw
      case rel => exact ⟨n / 10, x :: acc, by omega, by go_num, rfl, by rw [HX.out, dec_step n acc hlt]; exact HD.out, HB.out.alloc HB.out.size _⟩
      case measure => simp [intOf]; omega
    · have hc := oneByte wr (48 + (n : Int)) (by omega) (by omega)
      obtain ⟨x, hx⟩ : ∃ x : UInt8, x = UInt8.ofNat (48 + (n : Int)).toNat := ⟨_, rfl⟩
      rw [← hx] at hc
      have hx' : x = UInt8.ofNat (48 + n) := by rw [hx]; congr 1
      have HX := Lib.hid hx'
      clear hx hx'
      go_wp2
      go_ret
      refine ⟨ret_str ?_, HB.out.alloc HB.out.size _⟩
      have h2 := HD.out
      rw [Lib.decDigits_one (by omega)] at h2
      rw [HX.out, ← h2]
      rfl
theorem oneByteAt (W : World) (g : Nat) (x : Int) (h0 : 0 ≤ x) (h : x < 256) (hc : W.cell? ⟨g, 0, none⟩ = some (.int .u8 x)) : (convert 27 9 (.slice (some ⟨g, 0, none⟩) 1 1)).run Tryd.prog W = .ok (.string ⟨[UInt8.ofNat x.toNat].toArray⟩) W := by
  have hx : ((UInt8.ofNat x.toNat).toNat : Int) = x := by
    rw [UInt8.toNat_ofNat']
    omega
  exact run_convert_bytes_back (P := Tryd.prog) W 27 9 5 ⟨g, 0, none⟩ 1 [UInt8.ofNat x.toNat] Tryd.underlying27 Tryd.underlying5 Tryd.underlying9 (fun j hj => by
    obtain rfl : j = 0 := by simpa using hj
    have ha : (⟨g, 0, none⟩ : Addr).add 0 = ⟨g, 0, none⟩ := rfl
    rw [ha, hc]
    simp only [List.getElem_cons_zero]
    rw [hx])
theorem newByte (W : World) (x : Int) : (W.alloc (.cells #[.int .u8 x] 5)).cell? ⟨W.heap.size, 0, none⟩ = some (.int .u8 x) := by simp [go_sem]
theorem newByteD (W : World) (x : Int) : (W.alloc (.cells #[.int .u8 x] 5)).drew.cell? ⟨W.heap.size, 0, none⟩ = some (.int .u8 x) := by simp [go_sem]
theorem tdiv10 (u : Nat) : Int.tdiv (-(u : Int)) 10 = -((u / 10 : Nat) : Int) := by rw [Int.neg_tdiv]; rfl
theorem tmod10 (u : Nat) : Int.tmod (-(u : Int)) 10 = -((u % 10 : Nat) : Int) := by rw [Int.neg_tmod]; rfl
set_option maxRecDepth 100000 in
set_option maxHeartbeats 1000000 in
theorem spec_FormatInt_neg : ∀ (f u : Nat), u ≤ f → 1 ≤ u → u ≤ 9223372036854775808 → ∀ w : World, Calls Tryd.prog 9 #[.int .i64 (-(u : Int))] w fun e w' => e = .returned (.string ⟨(45 :: Lib.decDigits u).toArray⟩) ∧ Below w.heap.size w w'
  | 0, u, h, h1, _, w => by omega
  | f + 1, u, h, h1, h2, w => by
    by_cases hs : u < 10
    case pos =>
      have hc := oneByte w (48 + (u : Int)) (by omega) (by omega)
      obtain ⟨x, hx⟩ : ∃ x : UInt8, x = UInt8.ofNat (48 + (u : Int)).toNat := ⟨_, rfl⟩
      rw [← hx] at hc
      have hx' : [x] = Lib.decDigits u := by rw [hx, Lib.decDigits_one hs]; congr 1
      have hd := tdiv10 u
      rw [Nat.div_eq_of_lt hs] at hd
      rw [← hx']
      clear hx hx'
      go_enter Tryd.func9, Tryd.ntmps9
      go_wp2
      go_ret
      exact ⟨rfl, (Below.refl _ _).alloc (Nat.le_refl _) _⟩
    case neg =>
      have IH := Lib.hid (spec_FormatInt_neg f (u / 10) (by omega) (by omega) (by omega))
      have hd := tdiv10 u
      have hm := tmod10 u
      have hdd : Lib.decDigits u = Lib.decDigits (u / 10) ++ [UInt8.ofNat (48 + u % 10)] := by rw [Lib.decDigits, dif_neg hs]
      have hl := dec_len (u / 10) (by omega)
      have hq : u / 10 ≠ 0 := by omega
      have hq2 : u / 10 ≤ 922337203685477580 := by omega
      have hr : u % 10 < 10 := by omega
      have hc := fun W => oneByte W (48 + ((u % 10 : Nat) : Int)) (by omega) (by omega)
      obtain ⟨x, hx⟩ : ∃ x : UInt8, x = UInt8.ofNat (48 + ((u % 10 : Nat) : Int)).toNat := ⟨_, rfl⟩
      have hx' : x = UInt8.ofNat (48 + u % 10) := by rw [hx]; congr 1
      rw [hdd, ← hx']
      simp only [← hx] at hc
      clear hx' hdd
      generalize Lib.decDigits (u / 10) = t at *
      generalize u / 10 = q at *
      generalize u % 10 = r at *
      have HX := Lib.hid hx
      clear hx
      go_enter Tryd.func9, Tryd.ntmps9
      go_wp2_with fail
      have hr0 : (0 : Int) ≤ 48 + (r : Int) := by omega
      have hr1 : 48 + (r : Int) < 256 := by omega
      have hc0 := oneByteAt ((w.alloc (.cells #[.int .u8 (48 + (r : Int))] 5)).drew) _ _ hr0 hr1 (newByteD _ _)
      rw [← HX.out] at hc0
      have hw1 : IntKind.i64.wrap (-(q : Int)) = -(q : Int) := IntWalk.i64_in _ (by omega)
      have hw2 : IntKind.i64.wrap (48 + (r : Int)) = 48 + (r : Int) := IntWalk.i64_in _ (by omega)
      have hw3 : IntKind.u8.wrap (48 + (r : Int)) = 48 + (r : Int) := IntWalk.u8_in _ (by omega)
      go_region_with (go_simp; go_at_call 9; refine (IH.out _).mono ?_; rintro e w1 ⟨rfl, hb⟩; have hc1 := hc w1; (first | (have hc2 := oneByteAt w1 _ _ hr0 hr1 (cellKeep hb (newByteD _ _)); rw [← HX.out] at hc2) | skip))
      all_goals
        go_wp2_with fail
        go_ret
        first
        | exact ⟨rfl, (below_then (a := w) ((Below.refl _ _).drew) hb).alloc (below_then (a := w) ((Below.refl _ _).drew) hb).size _⟩
        | exact ⟨rfl, below_then (a := w) (((Below.refl _ _).alloc (Nat.le_refl _) _).drew) hb⟩
theorem spec_FormatInt_c (n : Int) (w : World) (h0 : -9223372036854775808 ≤ n) (h1 : n ≤ 9223372036854775807) : Calls Tryd.prog 9 #[.int .i64 n] w fun e w' => e = .returned (.string ⟨(Lib.itoa n).toArray⟩) ∧ Below w.heap.size w w' := by
  by_cases hn : n < 0
  · obtain ⟨u, hu⟩ := Int.eq_ofNat_of_zero_le (show 0 ≤ -n by omega)
    have hu' : n = -(u : Int) := by omega
    subst hu'
    rw [Lib.itoa_neg u (by omega)]
    exact spec_FormatInt_neg u u (Nat.le_refl _) (by omega) (by omega) w
  · obtain ⟨u, rfl⟩ := Int.eq_ofNat_of_zero_le (show 0 ≤ n by omega)
    rw [Lib.itoa_nonneg]
    exact spec_FormatInt_pos u w (by omega)
end Go.Proofs.YtkdccehihpgcdaaDoor
