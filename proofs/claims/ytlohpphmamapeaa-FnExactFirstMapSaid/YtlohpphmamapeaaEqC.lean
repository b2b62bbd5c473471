/-
  Contracts of the laws' own helpers on slices of integers and of strings: equal, marked, held, copied, measured.
  Conditions: at most 2^20 elements.
-/
import Derived.Test.YtlohpphmamapeaaOwn
namespace Go.Proofs.Ytlohpphmamapeaa
open Go.RowKit
set_option linter.unusedVariables false

theorem take_eq_succ {α : Type} {a b : List α} {k : Nat} (ha : k < a.length) (hb : k < b.length) (h : a.take k = b.take k) (hk : a[k] = b[k]) : a.take (k + 1) = b.take (k + 1) := by
  rw [List.take_succ_eq_append_getElem ha, List.take_succ_eq_append_getElem hb, h, hk]
theorem eq_of_takes {α : Type} {a b : List α} {k : Nat} (hl : a.length = b.length) (hk : a.length ≤ k) (h : a.take k = b.take k) : a = b := by
  rwa [List.take_of_length_le hk, List.take_of_length_le (by omega)] at h
theorem ne_at {α : Type} {a b : List α} {k : Nat} (ha : k < a.length) (hb : k < b.length) (h : a[k] ≠ b[k]) : a ≠ b := by
  intro e; subst e; exact h rfl

set_option maxRecDepth 100000 in
set_option maxHeartbeats 1000000 in
theorem eqIntS_c (A B : Option Addr) (c d : Nat) (xs ys : List Int) (w : World) (hA : Rd w 1 A xs.length (ints xs)) (hB : Rd w 1 B ys.length (ints ys)) (hx : xs.length ≤ 1099511627776) (hy : ys.length ≤ 1099511627776) :
    Calls Try.prog 26 #[.slice A xs.length c, .slice B ys.length d] w fun e w' => e = .returned (.bool (decide (xs = ys))) ∧ Below w.heap.size w w' := by
  by_cases hl : xs.length = ys.length
  case neg =>
    rw [decide_eq_false (show ¬ xs = ys from fun e => hl (by rw [e]))]
    have hl' : ((xs.length : Int) != (ys.length : Int)) = true := by rw [bne_iff_ne]; omega
    go_enter Try.func26, Try.ntmps26
    go_wp2
    go_ret
    exact ⟨rfl, Below.refl _ _⟩
  case pos =>
    have HL := Lib.hid hl
    have HA := Lib.hid hA
    have HB := Lib.hid hB
    obtain ⟨n, hn⟩ : ∃ n, n = ys.length := ⟨_, rfl⟩
    have hn1 : xs.length = n := by omega
    rw [hn1, ← hn]
    have HN := Lib.hid hn
    have HN1 := Lib.hid hn1
    have hn2 : n ≤ 1099511627776 := by omega
    clear hA hB hn hn1 hl hx hy
    go_enter Try.func26, Try.ntmps26
    go_wp2
    go_loopw [5] (fun i wr => ∃ k : Nat, k ≤ n ∧ i = .int .i64 k ∧ xs.take k = ys.take k ∧ ∃ m, wr = w.drewN m) (fun i _ => n - (intOf i).toNat)
    case atStart => exact ⟨0, by omega, rfl, by simp, 0, rfl⟩
    case round =>
      obtain ⟨k, hk, rfl, ht, m, rfl⟩ := hrel
      have HT := Lib.hid ht
      clear ht
      by_cases hlt : k < n
      · obtain ⟨b1, o1, rfl, hz1, hc1⟩ := HA.out.intAt (k := k) (by have := HN1.out; omega)
        obtain ⟨b2, o2, rfl, hz2, hc2⟩ := HB.out.intAt (k := k) (by have := HN.out; omega)
        by_cases he : xs[k] = ys[k]
        · have HE := Lib.hid he
          rw [← he] at hc2
          clear he
          generalize xs[k] = z at hc1 hc2
          go_wp2
          go_quiet (fail)
          go_wp2
          go_roundw
          case rel => exact ⟨k + 1, by omega, by go_num, take_eq_succ hz1 hz2 HT.out HE.out, _, rfl⟩
          case measure => simp [intOf]; omega
        · have HE := Lib.hid he
          generalize xs[k] = x at hc1 he
          generalize ys[k] = y at hc2 he
          have he' : (x != y) = true := by rw [bne_iff_ne]; exact he
          clear he
          go_wp2
          go_quiet (fail)
          go_wp2
          go_ret
          exact ⟨ret_bool (decide_eq_false (ne_at hz1 hz2 HE.out)).symm, by repeat (first | exact Below.refl _ _ | refine below_drewN ?_ _ | refine Below.drew ?_)⟩
      · go_wp2
        go_ret
        exact ⟨ret_bool (decide_eq_true (eq_of_takes HL.out (by have := HN1.out; omega) HT.out)).symm, by repeat (first | exact Below.refl _ _ | refine below_drewN ?_ _ | refine Below.drew ?_)⟩
theorem eqIntS_t (A B : Option Addr) (c d : Nat) (xs : List (Int)) (w : World) (hA : Rd w 1 A xs.length (ints xs)) (hB : Rd w 1 B xs.length (ints xs)) (hx : xs.length ≤ 1099511627776) :
    Calls Try.prog 26 #[.slice A xs.length c, .slice B xs.length d] w fun e w' => e = .returned (.bool true) ∧ Below w.heap.size w w' :=
  (eqIntS_c A B c d xs xs w hA hB hx hx).mono fun _ _ ⟨he, hb⟩ => ⟨he.trans (ret_bool (decide_eq_true rfl)), hb⟩

/-- The cells of a slice of integers that is being marked. -/
def markI (xs : List Value) (q : Int) (k : Nat) : List Value := (List.range k).map (fun j => Value.int .i64 (q + (j : Nat))) ++ xs.drop k
theorem markI_set (xs : List Value) (q : Int) (k : Nat) (h : k < xs.length) : (markI xs q k).set k (.int .i64 (q + k)) = markI xs q (k + 1) := by
  unfold markI
  rw [List.set_append_right _ _ (by simp), List.length_map, List.length_range, Nat.sub_self, List.drop_eq_getElem_cons h, List.set_cons_zero, List.range_succ, List.map_append]
  simp
def marked (q : Int) (n : Nat) : List Int := (List.range n).map fun j => q + (j : Nat)
theorem marked_len (q : Int) (n : Nat) : (marked q n).length = n := by simp [marked]
theorem marked_at (q : Int) (n k : Nat) (h : k < (marked q n).length) : (marked q n)[k] = q + k := by simp [marked]
theorem markI_all (xs : List Value) (q : Int) : markI xs q xs.length = ints (marked q xs.length) := by simp [markI, ints, marked]

set_option maxRecDepth 100000 in
set_option maxHeartbeats 1000000 in
theorem markIntS_c (A : Option Addr) (n c base : Nat) (cs : List Value) (q : Int) (w : World) (hA : Own w base 1 A n cs) (hn : n ≤ 1099511627776) (hq0 : 0 ≤ q) (hq : q ≤ 1099511627776) :
    Calls Try.prog 29 #[.slice A n c, .int .i64 q] w fun e w' => e = .returned (.int .i64 (q + n)) ∧ Own w' base 1 A n (ints (marked q n)) ∧ w.grownBy w' (blk A n) := by
  have hlen : cs.length = n := by simpa using hA.1
  have HL := Lib.hid hlen
  have HA := Lib.hid hA
  clear hlen hA
  go_enter Try.func29, Try.ntmps29
  go_wp2
  go_loopw [1, 5] (fun q' i wr => ∃ k : Nat, k ≤ n ∧ i = .int .i64 k ∧ q' = .int .i64 (q + k) ∧ Own wr base 1 A n (markI cs q k) ∧ w.grownBy wr (blk A n)) (fun _ i _ => n - (intOf i).toNat)
  case atStart => exact ⟨0, by omega, rfl, by simp, by simpa [markI] using HA.out, World.grownBy.refl w _⟩
  case round =>
    obtain ⟨k, hk, rfl, rfl, hown, hg⟩ := hrel
    by_cases hlt : k < n
    · obtain ⟨b, o, rfl, _, _, hz, hf, hst⟩ := hown.cells (by omega)
      have hlm : k < (markI cs q k).length := by have := hown.1; omega
      have hc1 := hz k _ (List.getElem?_eq_getElem hlm)
      have hf1 := hf k
      have HST := Lib.hid (hst k (.int .i64 (q + k)))
      have HG := Lib.hid hg
      generalize (markI cs q k)[k] = u at hc1
      clear hz hown hg hf hst
      go_wp2
      go_roundw
      case rel => exact ⟨k + 1, by omega, by go_num, by go_num, by rw [← markI_set cs q k (by rw [HL.out]; exact hlt)]; exact HST.out.1, HG.out.trans (by unfold blk; rw [if_neg (by omega)]; exact HST.out.2)⟩
      case measure => simp [intOf]; omega
    · obtain rfl : k = n := by omega
      have HO := Lib.hid hown
      have HG := Lib.hid hg
      clear hown hg
      go_wp2
      go_ret
      exact ⟨rfl, by have := HO.out; rw [← HL.out] at this ⊢; rwa [markI_all] at this, HG.out⟩
set_option maxRecDepth 100000 in
set_option maxHeartbeats 1000000 in
theorem heldIntS_c (A : Option Addr) (n c : Nat) (q : Int) (w : World) (hA : Rd w 1 A n (ints (marked q n))) (hn : n ≤ 1099511627776) (hq0 : 0 ≤ q) (hq : q ≤ 1099511627776) :
    Calls Try.prog 30 #[.slice A n c, .int .i64 q] w fun e w' => e = .returned (.int .i64 (q + n)) ∧ Below w.heap.size w w' := by
  have HA := Lib.hid hA
  clear hA
  go_enter Try.func30, Try.ntmps30
  go_wp2
  go_loopw [1, 5] (fun q' i wr => ∃ k : Nat, k ≤ n ∧ i = .int .i64 k ∧ q' = .int .i64 (q + k) ∧ ∃ m, wr = w.drewN m) (fun _ i _ => n - (intOf i).toNat)
  case atStart => exact ⟨0, by omega, rfl, by simp, 0, rfl⟩
  case round =>
    obtain ⟨k, hk, rfl, rfl, m, rfl⟩ := hrel
    by_cases hlt : k < n
    · obtain ⟨b, o, rfl, hz, hc⟩ := HA.out.intAt hlt
      rw [marked_at] at hc
      go_wp2
      go_roundw
      case rel => exact ⟨k + 1, by omega, by go_num, by go_num, _, rfl⟩
      case measure => simp [intOf]; omega
    · obtain rfl : k = n := by omega
      go_wp2
      go_ret
      exact ⟨rfl, by repeat (first | exact Below.refl _ _ | refine below_drewN ?_ _ | refine Below.drew ?_)⟩

end Go.Proofs.Ytlohpphmamapeaa
