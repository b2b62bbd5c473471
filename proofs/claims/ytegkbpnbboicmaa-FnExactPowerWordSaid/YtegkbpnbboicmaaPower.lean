/-
  Contracts of CountLetter, PadZeros, PowerWord and RootOf.
  Conditions: lengths of at most 2^20.
-/
import Derived.Test.YtegkbpnbboicmaaLonger
import Derived.Deep.RegionHeld3
import Derived.Test.YtegkbpnbboicmaaModPower
import Derived.Test.YtegkbpnbboicmaaShelf
namespace Go.Proofs.Ytegkbpnbboicmaa
open Go.RowKit
set_option linter.unusedVariables false

theorem ret_sb {a b : List UInt8} {c : Bool} (h : a = b) : Ending.returned (.tuple #[.string ⟨a.toArray⟩, .bool c]) = .returned (.tuple #[.string ⟨b.toArray⟩, .bool c]) := by rw [h]
theorem ret_si {a b : List UInt8} {c d : Int} (h : a = b) (h' : c = d) : Ending.returned (.tuple #[.string ⟨a.toArray⟩, .int .i64 c]) = .returned (.tuple #[.string ⟨b.toArray⟩, .int .i64 d]) := by rw [h, h']

theorem repeatL_eq (l : List UInt8) : ∀ n, Lib.repeatL l n = M.rep l n
  | 0 => rfl
  | n + 1 => by rw [Lib.repeatL, M.rep, repeatL_eq l n]
theorem Repeat_c (l : List UInt8) (n : Nat) (w : World) (hn : n ≤ 1048576) (hl : l.length ≤ 1048576) : Calls Try.prog 54 #[.string ⟨l.toArray⟩, .int .i64 (n : Int)] w fun e w' => e = .returned (.string ⟨(M.rep l n).toArray⟩) ∧ Below w.heap.size w w' := by
  have hb : l.length * n ≤ 1048576 * 1048576 := Nat.mul_le_mul hl hn
  have h := Try.strings_Repeat ⟨l.toArray⟩ n w (by omega) (by simp [ByteArray.size]; omega)
  rwa [repeatL_eq] at h

set_option maxRecDepth 100000 in
set_option maxHeartbeats 1000000 in
theorem spec_PowerWord_c (l : List UInt8) (n : Int) (w : World) (hl : l.length ≤ 1048576) (hn : n ≤ 9223372036854775807) : Calls Try.prog 38 #[.string ⟨l.toArray⟩, .int .i64 n] w fun e w' => e = .returned (.tuple #[.string ⟨(M.PowerWord l n).1.toArray⟩, .bool (M.PowerWord l n).2]) ∧ ∃ m, w' = w.drewN m := by
  by_cases h0 : n < 0
  · rw [M.power_no (by unfold M.powOk; simp; omega)]
    go_enter Try.func38, Try.ntmps38
    go_wp2
    go_ret2
    exact ⟨rfl, 0, rfl⟩
  by_cases h1 : l.length = 0
  · obtain rfl : l = [] := List.eq_nil_of_length_eq_zero h1
    rw [M.power_nil (by omega)]
    by_cases h2 : n = 0
    · subst h2
      clear h0 h1
      go_enter Try.func38, Try.ntmps38
      go_wp2
      go_loop [6, 7] (fun s i => s = .string ⟨#[]⟩ ∧ i = .int .i64 0) (fun _ _ => 0)
      case atStart => exact ⟨rfl, rfl⟩
      case round =>
        obtain ⟨rfl, rfl⟩ := hrel
        go_wp2
        go_ret2
        exact ⟨rfl, 0, rfl⟩
    · have h3 : 0 < n := by omega
      clear h0 h1 h2
      go_enter Try.func38, Try.ntmps38
      go_wp2
      go_loop [6, 7] (fun s i => s = .string ⟨#[]⟩ ∧ i = .int .i64 0) (fun _ _ => 0)
      case atStart => exact ⟨rfl, rfl⟩
      case round =>
        obtain ⟨rfl, rfl⟩ := hrel
        go_wp2
        go_ret2
        exact ⟨rfl, 0, rfl⟩
  have h1' : 0 < l.length := by omega
  obtain ⟨n, rfl⟩ := Int.eq_ofNat_of_zero_le (show 0 ≤ n by omega)
  obtain ⟨q, hq⟩ : ∃ q : Nat, (16 : Int) / (l.length : Int) = q := ⟨(16 / l.length : Nat), by simp⟩
  by_cases h2 : n ≤ q
  case neg =>
    rw [M.power_no (by unfold M.powOk; rw [hq, decide_eq_false (show ¬ l.length = 0 by omega), decide_eq_false (show ¬ (n : Int) ≤ (q : Int) by omega)]; simp)]
    have h2' : (q : Int) < n := by omega
    clear h0 h1
    go_enter Try.func38, Try.ntmps38
    go_wp2
    go_ret2
    exact ⟨rfl, 0, rfl⟩
  case pos =>
    rw [M.power_yes (by unfold M.powOk; rw [hq]; simp; omega) h1']
    have hnl := M.power_bound h1' (n := n) (by rw [hq]; omega)
    have hn16 : n ≤ 16 := Nat.le_trans (Nat.le_mul_of_pos_right n h1') hnl
    have he : (l == []) = false := by cases l with | nil => simp at h1' | cons a r => rfl
    have he2 : l.isEmpty = false := by cases l with | nil => simp at h1' | cons a r => rfl
    have HL := Lib.hid hnl
    clear h0 h1 hnl
    go_enter Try.func38, Try.ntmps38
    go_wp2
    go_loop [6, 7] (fun s i => ∃ k : Nat, k ≤ n ∧ i = .int .i64 k ∧ s = .string ⟨(M.rep l k).toArray⟩) (fun _ i => n - (intOf i).toNat)
    case atStart => exact ⟨0, by omega, rfl, rfl⟩
    case round =>
      obtain ⟨k, hk, rfl, rfl⟩ := hrel
      obtain ⟨y, hy⟩ : ∃ y, y = M.rep l k := ⟨_, rfl⟩
      rw [← hy]
      have hyl : y.length ≤ 1048576 := by
        rw [hy, M.rep_len]
        have := Nat.mul_le_mul_right l.length hk
        have := HL.out
        omega
      have HS := Lib.hid (show M.rep l (k + 1) = y ++ l by rw [M.rep_succ, hy])
      have HY := Lib.hid hy
      clear hy
      by_cases hlt : k < n
      · go_wp2
        go_round
        case rel => exact ⟨k + 1, by omega, by go_num, by rw [HS.out]⟩
        case measure => simp [intOf]; omega
      · obtain rfl : k = n := by omega
        go_wp2
        go_ret2
        exact ⟨ret_sb HY.out, 0, rfl⟩

set_option maxRecDepth 100000 in
set_option maxHeartbeats 1000000 in
theorem impl_PowerWord_c (l : List UInt8) (n : Int) (w : World) (hl : l.length ≤ 1048576) (hn : n ≤ 9223372036854775807) : Calls Try.prog 39 #[.string ⟨l.toArray⟩, .int .i64 n] w fun e w' => e = .returned (.tuple #[.string ⟨(M.PowerWord l n).1.toArray⟩, .bool (M.PowerWord l n).2]) ∧ Below w.heap.size w w' := by
  by_cases h0 : n < 0
  · rw [M.power_no (by unfold M.powOk; simp; omega)]
    go_enter Try.func39, Try.ntmps39
    go_wp2
    go_ret2
    exact ⟨rfl, Below.refl _ _⟩
  by_cases h1 : l.length = 0
  · obtain rfl : l = [] := List.eq_nil_of_length_eq_zero h1
    rw [M.power_nil (by omega)]
    clear h1
    go_enter Try.func39, Try.ntmps39
    go_wp2
    go_ret2
    exact ⟨rfl, Below.refl _ _⟩
  have h1' : 0 < l.length := by omega
  obtain ⟨n, rfl⟩ := Int.eq_ofNat_of_zero_le (show 0 ≤ n by omega)
  obtain ⟨q, hq⟩ : ∃ q : Nat, (16 : Int) / (l.length : Int) = q := ⟨(16 / l.length : Nat), by simp⟩
  by_cases h2 : n ≤ q
  case neg =>
    rw [M.power_no (by unfold M.powOk; rw [hq, decide_eq_false (show ¬ l.length = 0 by omega), decide_eq_false (show ¬ (n : Int) ≤ (q : Int) by omega)]; simp)]
    have h2' : (q : Int) < n := by omega
    clear h0 h1
    go_enter Try.func39, Try.ntmps39
    go_wp2
    go_ret2
    exact ⟨rfl, Below.refl _ _⟩
  case pos =>
    rw [M.power_yes (by unfold M.powOk; rw [hq]; simp; omega) h1']
    have hnl := M.power_bound h1' (n := n) (by rw [hq]; omega)
    have hn16 : n ≤ 16 := Nat.le_trans (Nat.le_mul_of_pos_right n h1') hnl
    have he : (l == []) = false := by cases l with | nil => simp at h1' | cons a r => rfl
    have he2 : l.isEmpty = false := by cases l with | nil => simp at h1' | cons a r => rfl
    have HC := Lib.hid (fun W => Repeat_c l n W (by omega) hl)
    clear h0 h1 hnl
    go_enter Try.func39, Try.ntmps39
    go_wp2_with fail
    refine (HC.out _).mono ?_
    rintro e w1 ⟨rfl, hb⟩
    go_wp2_with fail
    go_ret2
    exact ⟨rfl, hb⟩

theorem pad_zero (s : List UInt8) (n : Int) (h : ¬ n > 2000) (h' : n ≤ s.length) : M.PadZeros s n = s := by
  unfold M.PadZeros
  rw [if_neg h, show (n - s.length).toNat = 0 by omega]
  rfl
theorem pad_big (s : List UInt8) (n : Int) (h : n > 2000) : M.PadZeros s n = s := if_pos h
theorem pad_in (s : List UInt8) (n : Int) (h : ¬ n > 2000) : M.PadZeros s n = List.replicate (n - s.length).toNat 48 ++ s := if_neg h
set_option maxRecDepth 100000 in
set_option maxHeartbeats 1000000 in
theorem spec_PadZeros_c (l : List UInt8) (n : Int) (w : World) (hl : l.length ≤ 1048576) (hn0 : -9223372036854775808 ≤ n) (hn : n ≤ 9223372036854775807) : Calls Try.prog 36 #[.string ⟨l.toArray⟩, .int .i64 n] w fun e w' => e = .returned (.string ⟨(M.PadZeros l n).toArray⟩) ∧ w = w' := by
  by_cases hbig : n > 2000
  · rw [pad_big l n hbig]
    go_enter Try.func36, Try.ntmps36
    go_wp2
    go_ret
    exact ⟨rfl, rfl⟩
  · have hbig' : n ≤ 2000 := by omega
    go_enter Try.func36, Try.ntmps36
    go_wp2
    go_loop [0] (fun s => ∃ k : Nat, (k = 0 ∨ (k : Int) + l.length ≤ n) ∧ s = .string ⟨(List.replicate k 48 ++ l).toArray⟩) (fun s => (n - (match s with | .string b => (b.size : Int) | _ => 0)).toNat)
    case atStart => exact ⟨0, Or.inl rfl, rfl⟩
    case round =>
      obtain ⟨k, hk, rfl⟩ := hrel
      have HK := Lib.hid hk
      obtain ⟨y, hy⟩ : ∃ y, y = List.replicate k 48 ++ l := ⟨_, rfl⟩
      have hyl : y.length = k + l.length := by rw [hy]; simp
      rw [← hy]
      have HS := Lib.hid (show List.replicate (k + 1) 48 ++ l = 48 :: y by rw [hy, List.replicate_succ]; rfl)
      have hyb : y.length ≤ 1050577 := by omega
      have HY := Lib.hid hy
      have HYL := Lib.hid hyl
      clear hk hy
      by_cases hlt : (y.length : Int) < n
      · clear hyl
        go_wp2
        go_round
        case rel => exact ⟨k + 1, by have := HYL.out; omega, by rw [HS.out]⟩
        case measure => simp [ByteArray.size]; omega
      · clear hyl
        go_wp2
        go_ret
        exact ⟨ret_str (by
          rw [pad_in l n (by omega), HY.out]
          have h1 := HYL.out
          have h2 := HK.out
          rw [show (n - l.length).toNat = k by omega]), rfl⟩
theorem rep_one (c : UInt8) : ∀ n, M.rep [c] n = List.replicate n c
  | 0 => rfl
  | n + 1 => by rw [M.rep, rep_one c n, List.replicate_succ]; rfl
set_option maxRecDepth 100000 in
set_option maxHeartbeats 1000000 in
theorem impl_PadZeros_c (l : List UInt8) (n : Int) (w : World) (hl : l.length ≤ 1048576) (hn0 : -9223372036854775808 ≤ n) (hn : n ≤ 9223372036854775807) : Calls Try.prog 37 #[.string ⟨l.toArray⟩, .int .i64 n] w fun e w' => e = .returned (.string ⟨(M.PadZeros l n).toArray⟩) ∧ Below w.heap.size w w' := by
  by_cases hs : n ≤ l.length
  · have : M.PadZeros l n = l := by
      by_cases hbig : n > 2000
      · exact pad_big l n hbig
      · exact pad_zero l n hbig hs
    rw [this]
    clear this
    go_enter Try.func37, Try.ntmps37
    go_wp2
    go_ret
    exact ⟨rfl, Below.refl _ _⟩
  · by_cases hbig : n > 2000
    · rw [pad_big l n hbig]
      go_enter Try.func37, Try.ntmps37
      go_wp2
      go_ret
      exact ⟨rfl, Below.refl _ _⟩
    · rw [pad_in l n hbig]
      obtain ⟨m, hm⟩ := Int.eq_ofNat_of_zero_le (show 0 ≤ n - l.length by omega)
      have hm2 : m ≤ 2000 := by omega
      rw [hm, Int.toNat_natCast]
      have h1 := fun W => Repeat_c [48] m W (by omega) (by simp)
      obtain ⟨y, hy⟩ : ∃ y, y = List.replicate m (48 : UInt8) := ⟨_, rfl⟩
      have hyl : y.length ≤ 2000 := by rw [hy]; simp; omega
      rw [rep_one, ← hy] at h1
      rw [← hy]
      have HC := Lib.hid h1
      clear h1 hy
      go_enter Try.func37, Try.ntmps37
      go_wp2_with fail
      refine (HC.out _).mono ?_
      rintro e w1 ⟨rfl, hb⟩
      go_wp2_with fail
      go_ret
      exact ⟨rfl, hb⟩

theorem count_in (l : List UInt8) (x : Nat) (h : x < 4) : M.CountLetter l (x : Int) = ((l.count (M.letter x) : Nat) : Int) := by
  unfold M.CountLetter
  rw [if_pos (by unfold M.within; simp; omega)]
  rfl
theorem count_out (l : List UInt8) (x : Int) (h : M.within x 0 3 = false) : M.CountLetter l x = 0 := by
  unfold M.CountLetter
  rw [if_neg (by simp [h])]
theorem count_step (l : List UInt8) (c : UInt8) (k : Nat) (h : k < l.length) : (l.take (k + 1)).count c = (l.take k).count c + if l[k] = c then 1 else 0 := by
  rw [List.take_succ_eq_append_getElem h, List.count_append, List.count_singleton]
  simp
set_option maxRecDepth 100000 in
set_option maxHeartbeats 1000000 in
theorem spec_CountLetter_c (l : List UInt8) (x : Int) (w : World) (hl : l.length ≤ 1048576) : Calls Try.prog 34 #[.string ⟨l.toArray⟩, .int .i64 x] w fun e w' => e = .returned (.int .i64 (M.CountLetter l x)) ∧ w = w' := by
  by_cases hx : 0 ≤ x ∧ x ≤ 3
  case neg =>
    have hw : M.within x 0 3 = false := by unfold M.within; simp; omega
    rw [count_out l x hw]
    clear hx
    by_cases h0 : 0 < l.length
    all_goals
      go_enter Try.func34, Try.ntmps34
      go_wp2
      go_loop [5, 6] (fun s i => s = .int .i64 0 ∧ i = .int .i64 0) (fun _ _ => 0)
      case atStart => exact ⟨rfl, rfl⟩
      case round =>
        obtain ⟨rfl, rfl⟩ := hrel
        go_wp2_with (first | (go_at_call 48; refine (l01In_c _ _ _ _).mono ?_; rintro e w' ⟨rfl, rfl⟩))
        go_ret
        exact ⟨rfl, rfl⟩
  case pos =>
    obtain ⟨x, rfl⟩ := Int.eq_ofNat_of_zero_le hx.1
    have hx4 : x < 4 := by omega
    rw [count_in l x hx4]
    have hw : M.within (x : Int) 0 3 = true := by unfold M.within; simp; omega
    have hlt4 : ((M.letter x).toNat : Int) = 97 + (x : Int) := by unfold M.letter; rw [UInt8.toNat_ofNat']; omega
    have HL := Lib.hid hlt4
    have hx0 := hx.2
    clear hlt4 hx
    go_enter Try.func34, Try.ntmps34
    go_wp2
    go_loop [5, 6] (fun s i => ∃ k m : Nat, k ≤ l.length ∧ m ≤ k ∧ i = .int .i64 k ∧ s = .int .i64 m ∧ m = (l.take k).count (M.letter x)) (fun _ i => l.length - (intOf i).toNat)
    case atStart => exact ⟨0, 0, by omega, by omega, rfl, rfl, by simp⟩
    case round =>
      obtain ⟨k, m, hk, hmk, rfl, rfl, hm⟩ := hrel
      have HM := Lib.hid hm
      clear hm
      by_cases hlt : k < l.length
      · have HS := Lib.hid (count_step l (M.letter x) k hlt)
        by_cases he : l[k] = M.letter x
        · have HE := Lib.hid he
          have he' : (l[k].toNat : Int) = 97 + (x : Int) := by rw [he]; exact HL.out
          clear he
          go_wp2_with (first | (go_at_call 48; refine (l01In_c _ _ _ _).mono ?_; rintro e w' ⟨rfl, rfl⟩))
          go_round
          case rel => exact ⟨k + 1, m + 1, by omega, by omega, by go_num, by go_num, by rw [HS.out, if_pos HE.out, HM.out]⟩
          case measure => simp [intOf]; omega
        · have HE := Lib.hid he
          have he' : ¬ (l[k].toNat : Int) = 97 + (x : Int) := fun e => he (UInt8.toNat_inj.1 (by have := HL.out; omega))
          clear he
          go_wp2_with (first | (go_at_call 48; refine (l01In_c _ _ _ _).mono ?_; rintro e w' ⟨rfl, rfl⟩))
          go_round
          case rel => exact ⟨k + 1, m, by omega, by omega, by go_num, rfl, by rw [HS.out, if_neg HE.out, HM.out]; rfl⟩
          case measure => simp [intOf]; omega
      · have HT := Lib.hid (List.take_of_length_le (show l.length ≤ k by omega))
        go_wp2
        go_ret
        exact ⟨ret_int (by rw [HM.out, HT.out]), rfl⟩
set_option maxRecDepth 100000 in
set_option maxHeartbeats 1000000 in
theorem impl_CountLetter_c (l : List UInt8) (x : Int) (w : World) (hl : l.length ≤ 1048576) : Calls Try.prog 35 #[.string ⟨l.toArray⟩, .int .i64 x] w fun e w' => e = .returned (.int .i64 (M.CountLetter l x)) ∧ Below w.heap.size w w' := by
  by_cases hx : 0 ≤ x ∧ x ≤ 3
  case neg =>
    have hw : M.within x 0 3 = false := by unfold M.within; simp; omega
    rw [count_out l x hw]
    clear hx
    go_enter Try.func35, Try.ntmps35
    go_wp2_with (first | (go_at_call 49; refine (within_c _ _ _ _).mono ?_; rintro e w' ⟨rfl, rfl⟩))
    go_ret
    exact ⟨rfl, Below.refl _ _⟩
  case pos =>
    obtain ⟨x, rfl⟩ := Int.eq_ofNat_of_zero_le hx.1
    have hx4 : x < 4 := by omega
    rw [count_in l x hx4]
    have hw : M.within (x : Int) 0 3 = true := by unfold M.within; simp; omega
    have hC := Lib.hid (fun W => Try.strings_Count_one ⟨l.toArray⟩ (M.letter x) W)
    clear hx
    go_enter Try.func35, Try.ntmps35
    go_wp2_with fail
    refine (within_c _ _ _ _).mono ?_
    rintro e w1 ⟨rfl, rfl⟩
    go_wp2_with fail
    refine (letterOf_c x _ hx4).mono ?_
    rintro e w2 ⟨rfl, hb⟩
    go_wp2_with fail
    refine (hC.out _).mono ?_
    rintro e w3 ⟨rfl, rfl⟩
    go_wp2_with fail
    go_ret
    exact ⟨rfl, hb⟩

theorem root_no {l : List UInt8} (h : ¬ (1 ≤ l.length ∧ l.length ≤ 16)) : M.RootOf l = ([], 0) := if_neg h
theorem root_yes {l : List UInt8} (h : 1 ≤ l.length ∧ l.length ≤ 16) : M.RootOf l = (l.take (M.rootLen l), ((l.length / M.rootLen l : Nat) : Int)) := if_pos h
theorem root_pow {l : List UInt8} {n : Nat} (h1 : 1 ≤ n) (h2 : n ≤ l.length) (h3 : l.length ≤ 16) : M.PowerWord (l.take n) ((l.length / n : Nat) : Int) = (M.rep (l.take n) (l.length / n), true) := by
  have hl : (l.take n).length = n := by simp; omega
  have h : ((l.length / n : Nat) : Int) ≤ 16 / (n : Int) := by
    have : l.length / n ≤ 16 / n := Nat.div_le_div_right h3
    exact_mod_cast this
  have := M.power_yes (w := l.take n) (n := ((l.length / n : Nat) : Int)) (by unfold M.powOk; rw [hl, decide_eq_true h, decide_eq_true (Int.natCast_nonneg _)]; simp) (by omega)
  rwa [Int.toNat_natCast] at this
set_option maxRecDepth 100000 in
set_option maxHeartbeats 1000000 in
theorem spec_RootOf_c (l : List UInt8) (w : World) (hl : l.length ≤ 1048576) : Calls Try.prog 40 #[.string ⟨l.toArray⟩] w fun e w' => e = .returned (.tuple #[.string ⟨(M.RootOf l).1.toArray⟩, .int .i64 (M.RootOf l).2]) ∧ Below w.heap.size w w' := by
  by_cases hin : 1 ≤ l.length ∧ l.length ≤ 16
  case neg =>
    rw [root_no hin]
    have hw : M.within (l.length : Int) 1 16 = false := by unfold M.within; simp; omega
    clear hin
    go_enter Try.func40, Try.ntmps40
    go_wp2_with (first | (go_at_call 48; refine (l01In_c _ _ _ _).mono ?_; rintro e w' ⟨rfl, rfl⟩))
    go_ret2
    exact ⟨rfl, Below.refl _ _⟩
  case pos =>
    rw [root_yes hin]
    have hw : M.within (l.length : Int) 1 16 = true := by unfold M.within; simp; omega
    obtain ⟨hl1, hl16⟩ := hin
    go_enter Try.func40, Try.ntmps40
    go_wp2_with (first | (go_at_call 48; refine (l01In_c _ _ _ _).mono ?_; rintro e w' ⟨rfl, rfl⟩))
    clear hw
    go_loopw [4] (fun i wr => ∃ n : Nat, 1 ≤ n ∧ n ≤ l.length ∧ i = .int .i64 n ∧ M.rootFrom l (l.length - n) n = M.rootLen l ∧ Below w.heap.size w wr) (fun i _ => l.length - (intOf i).toNat)
    case atStart => exact ⟨1, by omega, by omega, rfl, rfl, Below.refl _ _⟩
    case round =>
      obtain ⟨n, hn1, hn2, rfl, hr, hb⟩ := hrel
      have HR := Lib.hid hr
      have HB := Lib.hid hb
      clear hr hb
      have hq' : (l.length : Int) / (n : Int) = ((l.length / n : Nat) : Int) := by simp
      obtain ⟨q, hq⟩ : ∃ q : Nat, q = l.length / n := ⟨_, rfl⟩
      have h1 := fun W => spec_PowerWord_c (l.take n) ((l.length / n : Nat) : Int) W (by simp; omega) (by rw [← hq]; have : l.length / n ≤ l.length := Nat.div_le_self _ _; omega)
      rw [root_pow hn1 hn2 hl16, ← hq] at h1
      rw [← hq] at hq'
      obtain ⟨y, hy⟩ : ∃ y, y = M.rep (l.take n) q := ⟨_, rfl⟩
      rw [← hy] at h1
      have HC := Lib.hid h1
      have HQ := Lib.hid hq
      have HY := Lib.hid hy
      have hqb : q ≤ 1048576 := by rw [hq]; have : l.length / n ≤ l.length := Nat.div_le_self _ _; omega
      clear h1 hq hy
      by_cases he : y = l
      · have HS := Lib.hid (M.root_stop HR.out (show M.isRoot l n = true from decide_eq_true (by rw [← HQ.out, ← HY.out]; exact he)))
        subst he
        go_wp2_with fail
        go_quiet ((go_at_call 38; exact quietD (HC.out _)))
        go_wp2
        go_quiet (fail)
        go_wp2
        go_ret2
        exact ⟨ret_si (by rw [HS.out]) (by rw [HS.out, ← HQ.out]), by first | exact below_drewN HB.out _ | exact below_drewN (below_drewN HB.out _) _⟩
      · have HS := Lib.hid (M.root_step hn1 hn2 HR.out (show M.isRoot l n = false from decide_eq_false (by rw [← HQ.out, ← HY.out]; exact he)))
        have he' : (y == l) = false := by simpa using he
        clear he
        go_wp2_with fail
        go_quiet ((go_at_call 38; exact quietD (HC.out _)))
        go_wp2
        go_roundw
        case rel => exact ⟨n + 1, by omega, HS.out.1, by go_num, HS.out.2, below_drewN HB.out _⟩
        case measure => have := HS.out.1; simp [intOf]; omega

theorem rootFrom_bound (l : List UInt8) : ∀ (f n : Nat), 1 ≤ n → n + f ≤ l.length → 1 ≤ M.rootFrom l f n ∧ M.rootFrom l f n ≤ l.length
  | 0, n, h1, h2 => by rw [M.rootFrom]; omega
  | f + 1, n, h1, h2 => by
    rw [M.rootFrom]
    split
    · omega
    · exact rootFrom_bound l f (n + 1) (by omega) (by omega)
theorem root_bound (l : List UInt8) (h : 0 < l.length) : 1 ≤ M.rootLen l ∧ M.rootLen l ≤ l.length := rootFrom_bound l _ _ (by omega) (by omega)
set_option maxRecDepth 100000 in
set_option maxHeartbeats 1000000 in
theorem rootOf_c (l : List UInt8) (w : World) (hl1 : 1 ≤ l.length) (hl : l.length ≤ 1048576) : Calls Try.prog 55 #[.string ⟨l.toArray⟩] w fun e w' => e = .returned (.string ⟨(l.take (M.rootLen l)).toArray⟩) ∧ Below w.heap.size w w' := by
  go_enter Try.func55, Try.ntmps55
  go_wp2
  go_loopw [3] (fun i wr => ∃ n : Nat, 1 ≤ n ∧ n ≤ l.length ∧ i = .int .i64 n ∧ M.rootFrom l (l.length - n) n = M.rootLen l ∧ Below w.heap.size w wr) (fun i _ => l.length - (intOf i).toNat)
  case atStart => exact ⟨1, by omega, by omega, rfl, rfl, Below.refl _ _⟩
  case round =>
    obtain ⟨n, hn1, hn2, rfl, hr, hb⟩ := hrel
    have HR := Lib.hid hr
    have HB := Lib.hid hb
    clear hr hb
    have hq' : (l.length : Int) / (n : Int) = ((l.length / n : Nat) : Int) := by simp
    have hm' : (l.length : Int) % (n : Int) = ((l.length % n : Nat) : Int) := by simp
    by_cases hd : l.length % n = 0
    case neg =>
      have HS := Lib.hid (M.root_step hn1 hn2 HR.out (M.root_rest hd hn2))
      obtain ⟨m, hm⟩ : ∃ m : Nat, m = l.length % n := ⟨_, rfl⟩
      rw [← hm] at hm' hd
      have hd' : ((m : Int) != 0) = true := by rw [bne_iff_ne]; omega
      clear hm hd hq'
      go_wp2_with fail
      go_quiet (fail)
      go_wp2
      go_roundw
      case rel => exact ⟨n + 1, by omega, HS.out.1, by go_num, HS.out.2, below_drewN HB.out _⟩
      case measure => have := HS.out.1; simp [intOf]; omega
    case pos =>
      rw [hd] at hm'
      have hd' : (((l.length : Int) % (n : Int)) != 0) = false := by rw [hm']; rfl
      obtain ⟨q, hq⟩ : ∃ q : Nat, q = l.length / n := ⟨_, rfl⟩
      have hqb : q ≤ 1048576 := by rw [hq]; have : l.length / n ≤ l.length := Nat.div_le_self _ _; omega
      have h1 := fun W => Repeat_c (l.take n) q W hqb (by simp; omega)
      rw [← hq] at hq'
      obtain ⟨y, hy⟩ : ∃ y, y = M.rep (l.take n) q := ⟨_, rfl⟩
      rw [← hy] at h1
      have HC := Lib.hid h1
      have HQ := Lib.hid hq
      have HY := Lib.hid hy
      clear h1 hq hy hd
      have hwq := wrap_nat (q := q) (by omega)
      have hnz : ¬ (n : Int) = 0 := by omega
      have hnn : ¬ n = 0 := by omega
      have htm : (l.length : Int).tmod (n : Int) = 0 := by rw [Int.tmod_eq_emod_of_nonneg (by omega)]; exact hm'
      have htq : (l.length : Int).tdiv (n : Int) = (q : Int) := by rw [Int.tdiv_eq_ediv_of_nonneg (by omega)]; exact hq'
      have hw0 : IntKind.i64.wrap 0 = 0 := by decide
      have hn0 : ((n : Int) == 0) = false := by rw [beq_eq_false_iff_ne]; exact hnz
      by_cases he : y = l
      · have HS := Lib.hid (M.root_stop HR.out (show M.isRoot l n = true from decide_eq_true (by rw [← HQ.out, ← HY.out]; exact he)))
        have HE := Lib.hid he
        rw [he] at HC
        clear he
        go_wp2_with fail
        go_region_held3 (fun w' => Below wr.heap.size wr w') (first | exact (Below.refl _ _).drew | assumption | exact below_then (by assumption) hb1) (first | (go_simp; go_at_call 54; refine (HC.out _).mono ?_; rintro e w1 ⟨rfl, hb1⟩))
        all_goals
          go_wp2
          go_ret
          exact ⟨ret_str (by rw [HS.out]), HB.out.trans ((below_drew1 hb1).mono HB.out.size)⟩
      · have HS := Lib.hid (M.root_step hn1 hn2 HR.out (show M.isRoot l n = false from decide_eq_false (by rw [← HQ.out, ← HY.out]; exact he)))
        have he' : (y == l) = false := by simpa using he
        clear he
        go_wp2_with fail
        go_region_held3 (fun w' => Below wr.heap.size wr w') (first | exact (Below.refl _ _).drew | assumption | exact below_then (by assumption) hb1) (first | (go_simp; go_at_call 54; refine (HC.out _).mono ?_; rintro e w1 ⟨rfl, hb1⟩))
        all_goals
          go_wp2
          go_roundw
          case rel => exact ⟨n + 1, by omega, HS.out.1, by go_num, HS.out.2, HB.out.trans ((below_drew1 hb1).mono HB.out.size)⟩
          case measure => have := HS.out.1; simp [intOf]; omega
set_option maxRecDepth 100000 in
set_option maxHeartbeats 1000000 in
theorem impl_RootOf_c (l : List UInt8) (w : World) (hl : l.length ≤ 1048576) : Calls Try.prog 41 #[.string ⟨l.toArray⟩] w fun e w' => e = .returned (.tuple #[.string ⟨(M.RootOf l).1.toArray⟩, .int .i64 (M.RootOf l).2]) ∧ Below w.heap.size w w' := by
  by_cases hin : 1 ≤ l.length ∧ l.length ≤ 16
  case neg =>
    rw [root_no hin]
    cases l with
    | nil =>
      clear hin
      go_enter Try.func41, Try.ntmps41
      go_wp2
      go_ret2
      exact ⟨rfl, Below.refl _ _⟩
    | cons a r =>
      have h16 : 16 < (a :: r).length := by simp only [List.length_cons] at hin ⊢; omega
      clear hin
      have he : (a :: r).isEmpty = false := rfl
      have he2 : ((a :: r) == []) = false := rfl
      generalize a :: r = l at *
      go_enter Try.func41, Try.ntmps41
      go_wp2
      go_ret2
      exact ⟨rfl, Below.refl _ _⟩
  case pos =>
    obtain ⟨hl1, hl16⟩ := hin
    have hb := root_bound l (by omega)
    have hy : M.RootOf l = (l.take (M.rootLen l), ((l.length / (l.take (M.rootLen l)).length : Nat) : Int)) := by
      rw [root_yes ⟨hl1, hl16⟩, List.length_take, Nat.min_eq_left hb.2]
    have hyl : 1 ≤ (l.take (M.rootLen l)).length := by rw [List.length_take, Nat.min_eq_left hb.2]; exact hb.1
    have hyl2 : (l.take (M.rootLen l)).length ≤ 16 := by rw [List.length_take]; omega
    rw [hy]
    have he : l.isEmpty = false := by cases l with | nil => simp at hl1 | cons a r => rfl
    have he2 : (l == []) = false := by cases l with | nil => simp at hl1 | cons a r => rfl
    have HC := Lib.hid (fun W => rootOf_c l W hl1 hl)
    clear hy hb
    generalize l.take (M.rootLen l) = y at *
    have hq' : (l.length : Int) / (y.length : Int) = ((l.length / y.length : Nat) : Int) := by simp
    have hyn : ¬ y = [] := by intro e; rw [e] at hyl; simp at hyl
    obtain ⟨q, hq⟩ : ∃ q : Nat, q = l.length / y.length := ⟨_, rfl⟩
    have hqb : q ≤ 1048576 := by rw [hq]; have : l.length / y.length ≤ l.length := Nat.div_le_self _ _; omega
    have HQ := Lib.hid hq
    rw [← hq] at hq'
    rw [← hq]
    clear hq
    have hwq := wrap_nat (q := q) (by omega)
    have hnz : ¬ (y.length : Int) = 0 := by omega
    have hnn : ¬ y.length = 0 := by omega
    have htq : (l.length : Int).tdiv (y.length : Int) = (q : Int) := by rw [Int.tdiv_eq_ediv_of_nonneg (by omega)]; exact hq'
    have hw0 : IntKind.i64.wrap 0 = 0 := by decide
    have hn0 : ((y.length : Int) == 0) = false := by rw [beq_eq_false_iff_ne]; exact hnz
    go_enter Try.func41, Try.ntmps41
    go_wp2_with fail
    refine (HC.out _).mono ?_
    rintro e w1 ⟨rfl, hb1⟩
    go_wp2_with fail
    go_quiet (fail)
    go_wp2
    go_ret2
    exact ⟨rfl, below_drewN hb1 _⟩

end Go.Proofs.Ytegkbpnbboicmaa
