/-
  Contracts of WordsOf.
  Conditions: none.
-/
import Derived.Test.YtegkbpnbboicmaaLonger
namespace Go.Proofs.Ytegkbpnbboicmaa
open Go.RowKit
set_option linter.unusedVariables false

set_option maxRecDepth 100000 in
set_option maxHeartbeats 2000000 in
theorem impl_WordsOf_c (K N : Int) (w : World) :
    Calls Try.prog 29 #[.int .i64 K, .int .i64 N] w (RetOwn (fun A c => .tuple #[.slice A (M.WordsOf K N).1.length c, .bool (M.WordsOf K N).2]) 9 1 (M.WordsOf K N).1.length (strs (M.WordsOf K N).1) w) := by
  by_cases hk : 1 ≤ K ∧ K ≤ 4
  case neg =>
    rw [M.wordsOf_no (Or.inl hk)]
    have HW := M.within_no K hk
    clear hk
    go_enter Try.func29, Try.ntmps29
    go_wp2_with (first | (go_at_call 49; refine (within_c _ _ _ _).mono ?_; rintro e w' ⟨rfl, rfl⟩))
    go_ret2
    exact ⟨none, 0, rfl, World.ownsRow_nil _ _ _ _, Below.refl _ _⟩
  by_cases hn : 0 ≤ N ∧ N ≤ 256
  case neg =>
    rw [M.wordsOf_no (Or.inr hn)]
    have HW := M.within_yes K hk
    have HV : M.within N 0 256 = false := by unfold M.within; simp; omega
    clear hk hn
    go_enter Try.func29, Try.ntmps29
    go_wp2_with (first | (go_at_call 49; refine (within_c _ _ _ _).mono ?_; rintro e w' ⟨rfl, rfl⟩))
    go_ret2
    exact ⟨none, 0, rfl, World.ownsRow_nil _ _ _ _, Below.refl _ _⟩
  have HW := M.within_yes K hk
  have HV : M.within N 0 256 = true := by unfold M.within; simp; omega
  obtain ⟨k, rfl⟩ := Int.eq_ofNat_of_zero_le (show 0 ≤ K by omega)
  obtain ⟨n, rfl⟩ := Int.eq_ofNat_of_zero_le hn.1
  obtain ⟨hk1, hk2⟩ := hk
  obtain ⟨hn1, hn2⟩ := hn
  go_enter Try.func29, Try.ntmps29
  go_wp2_with (first | (go_at_call 49; refine (within_c _ _ _ _).mono ?_; rintro e w' ⟨rfl, rfl⟩))
  clear HW HV
  go_loopw [6, 17] (fun s i wr => ∃ (r : Nat) (A : Option Addr) (c : Nat) (ws : List (List UInt8)), r ≤ n ∧ i = .int .i64 r ∧ s = .slice A ws.length c ∧ M.wordsIter k r = some ws ∧ wr.ownsRow w.heap.size 9 1 (.slice A ws.length c) ws.length (strs ws) ∧ Below w.heap.size w wr) (fun _ i _ => n - (intOf i).toNat)
  case atStart => exact ⟨0, _, 1, [[]], by omega, rfl, rfl, rfl, World.ownsRow_lit w _ 1 (Nat.le_refl _) (by simp [maxLen]) (by simp), (Below.refl _ _).alloc (Nat.le_refl _) _⟩
  case round =>
    obtain ⟨r, A, c, ws, hr, rfl, rfl, hi, hown, hb⟩ := hrel
    obtain ⟨hl1, hl2⟩ := M.wordsIter_len k r ws hi
    have HI := Lib.hid hi
    have HO := Lib.hid hown
    have HB := Lib.hid hb
    have HL := Lib.hid hl2
    clear hi hown hb hl2
    by_cases hlt : r < n
    · obtain ⟨q, hq⟩ : ∃ q : Nat, q = ws.length * k := ⟨_, rfl⟩
      have hq' : (ws.length : Int) * (k : Int) = (q : Int) := by rw [hq]; simp
      have hqb : q ≤ 1024 := by rw [hq]; have : ws.length * k ≤ 256 * 4 := Nat.mul_le_mul hl1 (by omega); omega
      have HQ := Lib.hid hq
      clear hq
      by_cases hbig : q ≤ 256
      · have HS := Lib.hid (M.wordsIter_step HI.out (by rw [← HQ.out]; exact hbig))
        go_wp2_with fail
        refine (longerWords_c k A c ws _ (by omega) (by omega) (fun l hl => by have := HL.out l hl; omega) (Rd.of_own HO.out)).mono ?_
        rintro e w1 ⟨A1, c1, rfl, hown1, hb1⟩
        have HO1 := Lib.hid (own_base hown1 HB.out.size)
        have HB1 := Lib.hid (HB.out.trans (hb1.mono HB.out.size))
        clear hown1 hb1
        go_wp2
        go_roundw
        case rel => exact ⟨r + 1, A1, c1, _, by omega, by go_num, rfl, HS.out, HO1.out, HB1.out⟩
        case measure => simp [intOf]; omega
      · have HS := Lib.hid (M.wordsOf_none ⟨by omega, by omega⟩ (by omega) (M.wordsIter_none (M.wordsIter_stop HI.out (by rw [← HQ.out]; omega)) n (by omega)))
        go_wp2
        go_ret2
        rw [HS.out]
        exact ⟨none, 0, rfl, World.ownsRow_nil _ _ _ _, HB.out⟩
    · obtain rfl : r = n := by omega
      have HS := Lib.hid (M.wordsOf_some ⟨by omega, by omega⟩ (by omega) HI.out)
      go_wp2
      go_ret2
      rw [HS.out]
      exact ⟨A, c, rfl, HO.out, HB.out⟩

set_option maxRecDepth 100000 in
set_option maxHeartbeats 4000000 in
theorem spec_WordsOf_c (K N : Int) (w : World) :
    Calls Try.prog 28 #[.int .i64 K, .int .i64 N] w (RetOwn (fun A c => .tuple #[.slice A (M.WordsOf K N).1.length c, .bool (M.WordsOf K N).2]) 9 1 (M.WordsOf K N).1.length (strs (M.WordsOf K N).1) w) := by
  by_cases hk : 1 ≤ K ∧ K ≤ 4
  case neg =>
    rw [M.wordsOf_no (Or.inl hk)]
    have HW := M.within_no K hk
    clear hk
    go_enter Try.func28, Try.ntmps28
    go_wp2_with (first | (go_at_call 48; refine (l01In_c _ _ _ _).mono ?_; rintro e w' ⟨rfl, rfl⟩))
    go_ret2
    exact ⟨none, 0, rfl, World.ownsRow_nil _ _ _ _, Below.refl _ _⟩
  by_cases hn : 0 ≤ N ∧ N ≤ 256
  case neg =>
    rw [M.wordsOf_no (Or.inr hn)]
    have HW := M.within_yes K hk
    clear hk
    by_cases h1 : N < 0
    · clear hn
      go_enter Try.func28, Try.ntmps28
      go_wp2_with (first | (go_at_call 48; refine (l01In_c _ _ _ _).mono ?_; rintro e w' ⟨rfl, rfl⟩))
      go_ret2
      exact ⟨none, 0, rfl, World.ownsRow_nil _ _ _ _, Below.refl _ _⟩
    · have h2 : 256 < N := by omega
      clear hn
      go_enter Try.func28, Try.ntmps28
      go_wp2_with (first | (go_at_call 48; refine (l01In_c _ _ _ _).mono ?_; rintro e w' ⟨rfl, rfl⟩))
      go_ret2
      exact ⟨none, 0, rfl, World.ownsRow_nil _ _ _ _, Below.refl _ _⟩
  have HW := M.within_yes K hk
  obtain ⟨k, rfl⟩ := Int.eq_ofNat_of_zero_le (show 0 ≤ K by omega)
  obtain ⟨n, rfl⟩ := Int.eq_ofNat_of_zero_le hn.1
  obtain ⟨hk1, hk2⟩ := hk
  obtain ⟨hn1, hn2⟩ := hn
  go_enter Try.func28, Try.ntmps28
  go_wp2_with (first | (go_at_call 48; refine (l01In_c _ _ _ _).mono ?_; rintro e w' ⟨rfl, rfl⟩))
  clear HW
  go_loopw [6, 7] (fun s i wr => ∃ (r : Nat) (A : Option Addr) (c : Nat) (ws : List (List UInt8)), r ≤ n ∧ i = .int .i64 r ∧ s = .slice A ws.length c ∧ M.wordsIter k r = some ws ∧ wr.ownsRow w.heap.size 9 1 (.slice A ws.length c) ws.length (strs ws) ∧ Below w.heap.size w wr) (fun _ i _ => n - (intOf i).toNat)
  case atStart => exact ⟨0, _, 1, [[]], by omega, rfl, rfl, rfl, World.ownsRow_lit w _ 1 (Nat.le_refl _) (by simp [maxLen]) (by simp), (Below.refl _ _).alloc (Nat.le_refl _) _⟩
  case round =>
    obtain ⟨r, A, c, ws, hr, rfl, rfl, hi, hown, hb⟩ := hrel
    obtain ⟨hl1, hl2⟩ := M.wordsIter_len k r ws hi
    have HI := Lib.hid hi
    have HO := Lib.hid hown
    have HB := Lib.hid hb
    have HL := Lib.hid hl2
    clear hi hown hb hl2
    by_cases hlt : r < n
    case neg =>
      obtain rfl : r = n := by omega
      have HS := Lib.hid (M.wordsOf_some ⟨by omega, by omega⟩ (by omega) HI.out)
      go_wp2
      go_ret2
      rw [HS.out]
      exact ⟨A, c, rfl, HO.out, HB.out⟩
    case pos =>
      obtain ⟨wq, hwq⟩ : ∃ wq : World, wq = wr := ⟨_, rfl⟩
      rw [← hwq] at HO HB ⊢
      clear hwq
      have HR := Lib.hid (Rd.of_own HO.out)
      go_wp2
      go_loopw [8, 32] (fun s i wr => ∃ (j : Nat) (A : Option Addr) (n c : Nat), j ≤ ws.length ∧ i = .int .i64 j ∧ s = .slice A n c ∧ n = (longTo k ws j 0).length ∧ wr.ownsRow wq.heap.size 9 1 (.slice A n c) n (strs (longTo k ws j 0)) ∧ Below wq.heap.size wq wr) (fun _ i _ => ws.length - (intOf i).toNat)
      case atStart => exact ⟨0, _, 0, 0, by omega, rfl, rfl, by rw [longTo_zero]; rfl, by rw [longTo_zero]; exact World.ownsRow_lit wq #[] 0 (Nat.le_refl _) (by simp [maxLen]) (by simp), (Below.refl _ _).alloc (Nat.le_refl _) _⟩
      case round =>
        obtain ⟨j, A', n', c', hj, rfl, rfl, hn', hown', hb'⟩ := hrel
        have HO' := Lib.hid hown'
        have HB' := Lib.hid hb'
        have HNN := Lib.hid hn'
        clear hown' hb' hn'
        by_cases hlt' : j < ws.length
        · obtain ⟨b, o, rfl, hz, hc⟩ := (HR.out.below HB'.out).strAt (k := j) hlt'
          obtain ⟨l, hl⟩ : ∃ l, l = ws[j] := ⟨_, rfl⟩
          rw [← hl] at hc
          have hll : l.length ≤ 1048576 := by rw [hl]; have := HL.out _ (List.getElem_mem hlt'); omega
          have HLL := Lib.hid hl
          obtain ⟨wo, hwo⟩ : ∃ wo : World, wo = wr := ⟨_, rfl⟩
          rw [← hwo] at HO' HB' hc ⊢
          clear hwo hl
          go_wp2
          go_loopw [8, 11] (fun s x wr => ∃ (y : Nat) (A : Option Addr) (n c : Nat), y ≤ k ∧ x = .int .i64 y ∧ s = .slice A n c ∧ n = (longTo k ws j y).length ∧ wr.ownsRow wq.heap.size 9 1 (.slice A n c) n (strs (longTo k ws j y)) ∧ Below wq.heap.size wq wr) (fun _ x _ => k - (intOf x).toNat)
          case atStart => exact ⟨0, A', n', c', by omega, rfl, rfl, HNN.out, by first | exact HO'.out | exact (own_below HO'.out (below_drewN (Below.refl _ _) _)), by first | exact HB'.out | exact HB'.out.drew⟩
          case round =>
            obtain ⟨y, A2, n2, c2, hy, rfl, rfl, hn2', hown2, hb2⟩ := hrel
            have HO2 := Lib.hid hown2
            have HB2 := Lib.hid hb2
            have HN2 := Lib.hid hn2'
            have hnb : n2 ≤ 8388608 := by rw [hn2', longTo_len k ws j y (by omega)]; have : j * k ≤ 256 * 4 := Nat.mul_le_mul (by omega) (by omega); omega
            clear hown2 hb2 hn2'
            by_cases hyk : y < k
            · have HS := Lib.hid (longTo_succ k ws j y hlt')
              rw [← HLL.out] at HS
              have hcv := oneByte wr (97 + (y : Int)) (by omega) (by omega)
              rw [letter_int y (by omega)] at hcv
              go_wp2_with (at_builtin; refine push_law rfl _ _ rfl slString rfl (HO2.out.alloc _) (us := [.string ⟨(l ++ [M.letter y]).toArray⟩]) rfl rfl (by simp [Value.oneCell']) (HB2.out.alloc HB2.out.size _) rfl (by omega) ?_; intro A3 c3 w3 hown3 hb3)
              go_roundw
              case rel => exact ⟨y + 1, A3, n2 + 1, c3, by omega, by go_num, rfl, by rw [HS.out, HN2.out]; simp, by rw [HS.out, strs_add]; exact hown3, hb3⟩
              case measure => simp [intOf]; omega
            · obtain rfl : y = k := by omega
              have HS := Lib.hid (longTo_next y ws j hlt')
              go_wp2
              go_roundw
              case rel => exact ⟨j + 1, A2, n2, c2, by omega, by go_num, rfl, by rw [HS.out, HN2.out], by rw [HS.out]; exact HO2.out, HB2.out⟩
              case measure => simp [intOf]; omega
        · obtain rfl : j = ws.length := by omega
          have HE := Lib.hid (longTo_all k ws)
          have hq : n' = ws.length * k := by rw [HNN.out, HE.out, M.longer_len]
          have HQ := Lib.hid hq
          clear hq
          by_cases hbig : n' ≤ 256
          · have HS := Lib.hid (M.wordsIter_step HI.out (by rw [← HQ.out]; exact hbig))
            go_wp2
            go_roundw
            case rel => exact ⟨r + 1, A', c', M.longer k ws, by omega, by go_num, by rw [← HE.out, ← HNN.out], HS.out, by rw [← HE.out, ← HNN.out]; exact own_base HO'.out HB.out.size, HB.out.trans (HB'.out.mono HB.out.size)⟩
            case measure => simp [intOf]; omega
          · have HS := Lib.hid (M.wordsOf_none ⟨by omega, by omega⟩ (by omega) (M.wordsIter_none (M.wordsIter_stop HI.out (by rw [← HQ.out]; omega)) n (by omega)))
            go_wp2
            go_ret2
            rw [HS.out]
            exact ⟨none, 0, rfl, World.ownsRow_nil _ _ _ _, HB.out.trans (HB'.out.mono HB.out.size)⟩

end Go.Proofs.Ytegkbpnbboicmaa
