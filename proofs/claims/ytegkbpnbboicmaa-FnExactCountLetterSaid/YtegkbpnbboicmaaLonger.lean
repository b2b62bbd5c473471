/-
  Contracts of letterOf, longerWords and WordsOf.
  Conditions: at most 2^20 words of at most 2^20 letters.
-/
import Derived.Test.YtegkbpnbboicmaaPush
import Derived.Test.YtegkbpnbboicmaaMarkC
import Derived.Test.YtegkbpnbboicmaaWordC
namespace Go.Proofs.Ytegkbpnbboicmaa
open Go.RowKit
set_option linter.unusedVariables false

theorem letter_int (x : Nat) (h : x < 4) : (UInt8.ofNat (((97 : Int) + (x : Int)).toNat)) = M.letter x := by
  unfold M.letter; congr 1
set_option maxRecDepth 100000 in
set_option maxHeartbeats 1000000 in
theorem letterOf_c (x : Nat) (w : World) (h : x < 4) : Calls Try.prog 53 #[.int .i64 (x : Int)] w fun e w' => e = .returned (.string ⟨[M.letter x].toArray⟩) ∧ Below w.heap.size w w' := by
  have hc := oneByte w (97 + (x : Int)) (by omega) (by omega)
  rw [letter_int x h] at hc
  go_enter Try.func53, Try.ntmps53
  go_wp2
  go_ret
  exact ⟨rfl, (Below.refl _ _).alloc (Nat.le_refl _) _⟩

/-- The words that are there when i words are done and x letters of the next one. -/
def longTo (k : Nat) (ws : List (List UInt8)) (i x : Nat) : List (List UInt8) := M.longer k (ws.take i) ++ (List.range x).map fun y => ws.getD i [] ++ [M.letter y]
theorem longTo_zero (k : Nat) (ws : List (List UInt8)) : longTo k ws 0 0 = [] := by simp [longTo, M.longer]
theorem longTo_succ (k : Nat) (ws : List (List UInt8)) (i x : Nat) (h : i < ws.length) : longTo k ws i (x + 1) = longTo k ws i x ++ [ws[i] ++ [M.letter x]] := by
  simp [longTo, List.range_succ, h]
theorem longTo_next (k : Nat) (ws : List (List UInt8)) (i : Nat) (h : i < ws.length) : longTo k ws (i + 1) 0 = longTo k ws i k := by
  unfold longTo M.longer
  rw [List.take_succ_eq_append_getElem h, List.flatMap_append]
  simp only [List.range_zero, List.map_nil, List.append_nil, List.flatMap_cons, List.flatMap_nil]
  congr 1
  rw [List.getD_eq_getElem?_getD, List.getElem?_eq_getElem h]
  rfl
theorem longTo_all (k : Nat) (ws : List (List UInt8)) : longTo k ws ws.length 0 = M.longer k ws := by simp [longTo]
theorem longTo_len (k : Nat) (ws : List (List UInt8)) (i x : Nat) (h : i ≤ ws.length) : (longTo k ws i x).length = i * k + x := by
  simp [longTo, M.longer_len, Nat.min_eq_left h]
set_option maxRecDepth 100000 in
set_option maxHeartbeats 2000000 in
theorem longerWords_c (k : Nat) (A0 : Option Addr) (c0 : Nat) (ws : List (List UInt8)) (w : World) (hk : k ≤ 4) (hws : ws.length ≤ 1048576) (hwl : ∀ l ∈ ws, l.length ≤ 1048576) (hA : Rd w 1 A0 ws.length (strs ws)) :
    Calls Try.prog 50 #[.int .i64 (k : Int), .slice A0 ws.length c0] w (RetRow 9 1 (M.longer k ws).length (strs (M.longer k ws)) w) := by
  have HA := Lib.hid hA
  have HL := Lib.hid hwl
  clear hA hwl
  go_enter Try.func50, Try.ntmps50
  go_wp2
  go_loopw [5, 7, 8, 11] (fun s _ _ i wr => ∃ (j : Nat) (A : Option Addr) (n c : Nat), j ≤ ws.length ∧ i = .int .i64 j ∧ s = .slice A n c ∧ n = (longTo k ws j 0).length ∧ wr.ownsRow w.heap.size 9 1 (.slice A n c) n (strs (longTo k ws j 0)) ∧ Below w.heap.size w wr) (fun _ _ _ i _ => ws.length - (intOf i).toNat)
  case atStart => exact ⟨0, none, 0, 0, by omega, rfl, rfl, by rw [longTo_zero]; rfl, by rw [longTo_zero]; exact World.ownsRow_nil _ _ _ _, Below.refl _ _⟩
  case round =>
    obtain ⟨j, A, n, c, hj, rfl, rfl, hn, hown, hb⟩ := hrel
    have HO := Lib.hid hown
    have HB := Lib.hid hb
    have HNN := Lib.hid hn
    clear hown hb hn
    by_cases hlt : j < ws.length
    · obtain ⟨b, o, rfl, hz, hc⟩ := (HA.out.below HB.out).strAt (k := j) hlt
      obtain ⟨l, hl⟩ : ∃ l, l = ws[j] := ⟨_, rfl⟩
      rw [← hl] at hc
      have hll : l.length ≤ 1048576 := by rw [hl]; exact HL.out _ (List.getElem_mem hlt)
      have HLL := Lib.hid hl
      obtain ⟨wo, hwo⟩ : ∃ wo : World, wo = wr := ⟨_, rfl⟩
      rw [← hwo] at HO HB hc ⊢
      clear hwo hl
      go_wp2
      go_loopw [5, 8, 16] (fun s _ x wr => ∃ (y : Nat) (A : Option Addr) (n c : Nat), y ≤ k ∧ x = .int .i64 y ∧ s = .slice A n c ∧ n = (longTo k ws j y).length ∧ wr.ownsRow w.heap.size 9 1 (.slice A n c) n (strs (longTo k ws j y)) ∧ Below w.heap.size w wr) (fun _ _ x _ => k - (intOf x).toNat)
      case atStart => exact ⟨0, A, n, c, by omega, rfl, rfl, HNN.out, by first | exact HO.out | exact (own_below HO.out (below_drewN (Below.refl _ _) _)), by first | exact HB.out | exact HB.out.drew⟩
      case round =>
        obtain ⟨y, A', n', c', hy, rfl, rfl, hn', hown', hb'⟩ := hrel
        have HO' := Lib.hid hown'
        have HB' := Lib.hid hb'
        have HN' := Lib.hid hn'
        have hnb : n' ≤ 8388608 := by rw [hn', longTo_len k ws j y (by omega)]; have : j * k ≤ 1048576 * 4 := Nat.mul_le_mul (by omega) hk; omega
        clear hown' hb' hn'
        by_cases hyk : y < k
        · have HS := Lib.hid (longTo_succ k ws j y hlt)
          rw [← HLL.out] at HS
          go_wp2_with fail
          refine (letterOf_c y _ (by omega)).mono ?_
          rintro e w1 ⟨rfl, hb1⟩
          have HO1 := Lib.hid (own_below HO'.out hb1)
          have HB1 := Lib.hid (HB'.out.trans (hb1.mono HB'.out.size))
          clear hb1
          go_wp2_with (at_builtin; refine push_law rfl _ _ rfl slString rfl HO1.out (us := [.string ⟨(l ++ [M.letter y]).toArray⟩]) rfl rfl (by simp [Value.oneCell']) HB1.out rfl (by omega) ?_; intro A2 c2 w2 hown2 hb2)
          go_roundw
          case rel => exact ⟨y + 1, A2, n' + 1, c2, by omega, by go_num, rfl, by rw [HS.out, HN'.out]; simp, by rw [HS.out, strs_add]; exact hown2, hb2⟩
          case measure => simp [intOf]; omega
        · obtain rfl : y = k := by omega
          have HS := Lib.hid (longTo_next y ws j hlt)
          go_wp2
          go_roundw
          case rel => exact ⟨j + 1, A', n', c', by omega, by go_num, rfl, by rw [HS.out, HN'.out], by rw [HS.out]; exact HO'.out, HB'.out⟩
          case measure => simp [intOf]; omega
    · obtain rfl : j = ws.length := by omega
      have HE := Lib.hid (longTo_all k ws)
      go_wp2
      go_ret
      exact ⟨A, c, by rw [← HE.out, ← HNN.out]; rfl, by rw [← HE.out, ← HNN.out]; exact HO.out, HB.out⟩

end Go.Proofs.Ytegkbpnbboicmaa
