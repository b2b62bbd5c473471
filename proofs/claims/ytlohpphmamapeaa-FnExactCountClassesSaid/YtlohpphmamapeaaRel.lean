/-
  Contracts of slices.Equal at any two lists of numbers, of l09Same and l09Related.
  Conditions: lists of at most 2^20 numbers; a valid table, elements of it, a kind from 1 to 4.
-/
import Derived.Test.YtlohpphmamapeaaClsM
import Derived.Test.YtlohpphmamapeaaIdealS
import Derived.Test.YtlohpphmamapeaaShelf
namespace Go.Proofs.Ytlohpphmamapeaa
open Go.RowKit
set_option linter.unusedVariables false
set_option linter.unusedSimpArgs false

theorem rd_ints {w : World} {b o n : Nat} {xs : List Int} (h : Rd w 1 (some ⟨b, o, none⟩) n (ints xs)) (hn : 0 < n) : ∀ j, j < xs.length → w.cell? ⟨b, o + j, none⟩ = some (.int .i64 (xs.getD j 0)) := fun j hj => by
  obtain ⟨g, o', e, hc⟩ := h.2 hn
  injection e with e
  injection e with e1 e2
  subst e1; subst e2
  rw [hc j _ (ints_at hj), List.getD_eq_getElem?_getD, List.getElem?_eq_getElem hj]
  rfl
theorem equalInts_c (A : Option Addr) (c : Nat) (xs : List Int) (B : Option Addr) (d : Nat) (ys : List Int) (w : World) (hA : Rd w 1 A xs.length (ints xs)) (hB : Rd w 1 B ys.length (ints ys)) (hl : xs.length ≤ 1048576) (hl2 : ys.length ≤ 1048576) :
    Calls Try.prog 93 #[.slice A xs.length c, .slice B ys.length d] w fun e w' => e = .returned (.bool (decide (xs = ys))) ∧ Below w.heap.size w w' := by
  by_cases hn : xs.length = ys.length
  · by_cases h0 : xs.length = 0
    · have e1 : xs = [] := List.eq_nil_of_length_eq_zero h0
      have e2 : ys = [] := List.eq_nil_of_length_eq_zero (by omega)
      subst e1; subst e2
      refine (Try.slices_Equal_int_empty A B c 0 d w (by omega)).mono ?_
      rintro e w' ⟨rfl, rfl⟩
      exact ⟨rfl, Below.refl _ _⟩
    · obtain ⟨b1, o1, rfl, _⟩ := hA.2 (by omega)
      obtain ⟨b2, o2, rfl, _⟩ := hB.2 (by omega)
      refine (Try.slices_Equal_int b1 o1 xs.length c b2 o2 ys.length d xs ys w (Nat.le_refl _) (Nat.le_refl _) (by omega) (by omega) (rd_ints hA (by omega)) (rd_ints hB (by omega))).mono ?_
      rintro e w' ⟨rfl, q, rfl⟩
      rw [List.take_length, List.take_length]
      have e : (xs == ys) = decide (xs = ys) := by rw [Bool.eq_iff_iff]; simp
      rw [e]
      exact ⟨rfl, below_drewN (Below.refl _ _) q⟩
  · refine (Try.slices_Equal_int_lens A B xs.length c ys.length d w hn).mono ?_
    rintro e w' ⟨rfl, rfl⟩
    have h : decide (xs = ys) = false := decide_eq_false (fun e => hn (by rw [e]))
    rw [h]
    exact ⟨rfl, Below.refl _ _⟩
set_option maxRecDepth 100000 in
set_option maxHeartbeats 2000000 in
theorem l09Same_c (A : Option Addr) (c : Nat) (xs : List Int) (B : Option Addr) (d : Nat) (ys : List Int) (w : World) (hA : Rd w 1 A xs.length (ints xs)) (hB : Rd w 1 B ys.length (ints ys)) (hl : xs.length ≤ 1048576) (hl2 : ys.length ≤ 1048576) :
    Calls Try.prog 139 #[.slice A xs.length c, .slice B ys.length d] w fun e w' => e = .returned (.bool (decide (xs = ys))) ∧ Below w.heap.size w w' := by
  by_cases hn : xs.length = ys.length
  case neg =>
    have h : decide (xs = ys) = false := decide_eq_false (fun e => hn (by rw [e]))
    rw [h]
    clear hA hB h
    go_enter Try.func139, Try.ntmps139
    go_wp2
    go_ret
    exact ⟨rfl, Below.refl _ _⟩
  case pos =>
  have HX : Hid (∀ j, j ≤ xs.length → xs.take j = ys.take j → (xs.length ≤ j → decide (xs = ys) = true)) := Lib.hid (fun j hj he hle => decide_eq_true (by rw [List.take_of_length_le hle, List.take_of_length_le (by omega)] at he; exact he))
  have HS : Hid (∀ j (hj : j < xs.length) (hj2 : j < ys.length), xs.take j = ys.take j → xs[j] = ys[j] → xs.take (j + 1) = ys.take (j + 1)) := Lib.hid (fun j hj hj2 he hx => by rw [List.take_succ_eq_append_getElem hj, List.take_succ_eq_append_getElem hj2, he, hx])
  have HN : Hid (∀ j (hj : j < xs.length) (hj2 : j < ys.length), xs[j] ≠ ys[j] → decide (xs = ys) = false) := Lib.hid (fun j hj hj2 hx => decide_eq_false (fun e => hx (by subst e; rfl)))
  have HA := Lib.hid (fun j (hj : j < xs.length) => (show ∃ b o, A = some ⟨b, o, none⟩ ∧ w.cell? ⟨b, o + j, none⟩ = some (.int .i64 xs[j]) from by
    obtain ⟨b, o, e, hc⟩ := hA.2 (by omega)
    exact ⟨b, o, e, hc j _ (ints_at hj)⟩))
  have HB := Lib.hid (fun j (hj : j < ys.length) => (show ∃ b o, B = some ⟨b, o, none⟩ ∧ w.cell? ⟨b, o + j, none⟩ = some (.int .i64 ys[j]) from by
    obtain ⟨b, o, e, hc⟩ := hB.2 (by omega)
    exact ⟨b, o, e, hc j _ (ints_at hj)⟩))
  have HNN := Lib.hid hn
  clear hA hB
  obtain ⟨n, hxn⟩ : ∃ n, n = xs.length := ⟨_, rfl⟩
  have hyn : n = ys.length := by omega
  have HXN := Lib.hid hxn
  have HYN := Lib.hid hyn
  rw [← hxn, ← hyn]
  rw [← hxn] at hl
  clear hxn hyn hn hl2
  go_enter Try.func139, Try.ntmps139
  go_wp2
  go_loop [14] (fun z => ∃ j : Nat, j ≤ n ∧ z = .int .i64 j ∧ xs.take j = ys.take j) (fun z => n - (intOf z).toNat)
  case atStart => exact ⟨0, by omega, rfl, rfl⟩
  case round =>
    obtain ⟨j, hj, rfl, he⟩ := hrel
    have HE := Lib.hid he
    clear he
    by_cases hlt : j < n
    case neg =>
      have hd := Lib.hid (HX.out j (by have := HXN.out; omega) HE.out (by have := HXN.out; omega))
      go_wp2
      go_ret
      exact ⟨by rw [hd.out]; rfl, Below.refl _ _⟩
    case pos =>
      have hj1 : j < xs.length := by have := HXN.out; omega
      have hj2 : j < ys.length := by have := HYN.out; omega
      obtain ⟨b1, o1, rfl, hc1⟩ := HA.out j hj1
      obtain ⟨b2, o2, rfl, hc2⟩ := HB.out j hj2
      by_cases hx : xs[j] = ys[j]
      · have HS1 := Lib.hid (HS.out j hj1 hj2 HE.out hx)
        rw [← hx] at hc2
        generalize xs[j] = x at *
        clear hx hj1 hj2
        go_wp2
        go_round
        case rel => exact ⟨j + 1, by omega, by go_num, HS1.out⟩
        case measure => simp [intOf] <;> omega
      · have HN1 := Lib.hid (HN.out j hj1 hj2 hx)
        have hx' : (xs[j] == ys[j]) = false := by rw [beq_eq_false_iff_ne]; exact hx
        generalize xs[j] = x at *
        generalize ys[j] = y at *
        clear hj1 hj2
        go_wp2
        go_ret
        exact ⟨by rw [HN1.out]; rfl, Below.refl _ _⟩
set_option maxRecDepth 100000 in
set_option maxHeartbeats 4000000 in
theorem l09Related_low (n : Nat) (A : Option Addr) (c : Nat) (xs : List Int) (i k kind : Int) (w : World) (hA : Rd w 1 A xs.length (ints xs)) (hn1 : 1 ≤ n) (hn : n ≤ 40) (hl : xs.length = n * n) (hP : M.InP n xs) (hi : 0 ≤ i ∧ i < n) (hk : 0 ≤ k ∧ k < n) (hkd : kind = 1 ∨ kind = 2 ∨ kind = 3) :
    Calls Try.prog 88 #[.agg #[.int .i64 n, .slice A xs.length c], .int .i64 i, .int .i64 k, .int .i64 kind] w fun e w' => e = .returned (.bool (decide (M.ideal n xs kind i = M.ideal n xs kind k))) ∧ Below w.heap.size w w' := by
  have HA := Lib.hid hA
  obtain ⟨P, hPd⟩ : ∃ P : Int → Nat → Bool, P = fun (i : Int) (z : Nat) => (M.rawTo n xs kind i n).contains (z : Int) := ⟨_, rfl⟩
  have HID := Lib.hid (show ∀ (j : Int) (W : World), Rd W 1 A xs.length (ints xs) → (0 ≤ j ∧ j < n) → Calls Try.prog 84 #[.agg #[.int .i64 n, .slice A xs.length c], .int .i64 j, .int .i64 kind] W (fun e w' => ∃ r, e = .returned (.slice (some ⟨r, 0, none⟩) n n) ∧ Own w' W.heap.size 1 (some ⟨r, 0, none⟩) n (bls (P j) n) ∧ Below W.heap.size W w') from fun j W h hj => by rw [hPd]; exact l09Ideal_c n A c xs j kind W h hn1 hn hl hP hj hkd)
  have HLI := Lib.hid (show ∀ (r : Nat) (p : Nat → Bool) (W : World), Rd W 1 (some ⟨r, 0, none⟩) n (bls p n) → Calls Try.prog 70 #[.slice (some ⟨r, 0, none⟩) n n] W (RetRow 3 1 (M.sel p n).length (ints (M.sel p n)) W) from fun r p W h => l09List_c p _ _ n W h hn)
  have HSL := Lib.hid (fun (p : Nat → Bool) => Nat.le_trans (M.sel_len p n) (show n ≤ 1048576 by omega))
  have HE := Lib.hid (show decide (M.ideal n xs kind i = M.ideal n xs kind k) = decide (M.sel (P i) n = M.sel (P k) n) by rw [hPd]; rfl)
  rw [HE.out]
  have hk4 : ¬ kind = 4 := by omega
  clear hA hP hl hPd hkd
  generalize xs.length = xl at *
  go_enter Try.func88, Try.ntmps88
  have HP := Lib.hid ((Below.refl w.heap.size w).alloc (Nat.le_refl _) (.cells #[.int .i64 n, .slice A xl c] 40))
  go_wp2_with fail
  have q0 : (w.alloc (.cells #[.int .i64 n, .slice A xl c] 40)).cell? ⟨w.heap.size, 0, none⟩ = some (.int .i64 n) := by simp [go_sem]
  have q1 : (w.alloc (.cells #[.int .i64 n, .slice A xl c] 40)).cell? ⟨w.heap.size, 1, none⟩ = some (.slice A xl c) := by simp [go_sem]
  have RA := Lib.hid (HA.out.below HP.out)
  generalize w.alloc (.cells #[.int .i64 n, .slice A xl c] 40) = wz at *
  go_region_held3 (fun w' => w'.cell? ⟨w.heap.size, 0, none⟩ = some (.int .i64 n) ∧ w'.cell? ⟨w.heap.size, 1, none⟩ = some (.slice A xl c)) (first | exact ⟨q0, q1⟩ | assumption | exact heldB (by assumption) hb4)
    (first
      | (go_simp; go_at_call 84; refine (HID.out _ _ (by first | exact RA.out.below (Below.refl _ _).drew | exact RA.out.below Bz) (by first | exact hi | exact hk)).mono ?_; rintro e w4 ⟨r4, rfl, ho4, hb4⟩; (first | have Bz := below_then (a := wz) (Below.refl _ _).drew hb4 | have Bz := below_then Bz hb4); (try replace HFi := Lib.hid (HFi.out.below hb4)); (try replace HFk := Lib.hid (HFk.out.below hb4)); (try replace HLi := Lib.hid (HLi.out.below hb4)); (try replace HLk := Lib.hid (HLk.out.below hb4)); first | have HFi := Lib.hid (show Rd w4 1 (some ⟨r4, 0, none⟩) n (bls (P i) n) from ho4.rd) | have HFk := Lib.hid (show Rd w4 1 (some ⟨r4, 0, none⟩) n (bls (P k) n) from ho4.rd))
      | (go_simp; go_at_call 70; refine (HLI.out _ _ _ (by first | exact HFi.out | exact HFk.out)).mono ?_; rintro e w4 ⟨A4, c4, rfl, ho4, hb4⟩; have Bz := below_then Bz hb4; (try replace HFi := Lib.hid (HFi.out.below hb4)); (try replace HFk := Lib.hid (HFk.out.below hb4)); (try replace HLi := Lib.hid (HLi.out.below hb4)); (try replace HLk := Lib.hid (HLk.out.below hb4)); first | have HLi := Lib.hid (show Rd w4 1 A4 (M.sel (P i) n).length (ints (M.sel (P i) n)) from Rd.of_own ho4) | have HLk := Lib.hid (show Rd w4 1 A4 (M.sel (P k) n).length (ints (M.sel (P k) n)) from Rd.of_own ho4))
      | (go_simp; go_at_call 139; refine (l09Same_c _ _ _ _ _ _ _ HLi.out HLk.out (HSL.out _) (HSL.out _)).mono ?_; rintro e w4 ⟨rfl, hb4⟩; have Bz := below_then Bz hb4))
  all_goals
    go_wp2_with fail
    go_ret
    exact ⟨rfl, HP.out.trans (Bz.mono HP.out.size)⟩
set_option maxRecDepth 100000 in
set_option maxHeartbeats 4000000 in
theorem l09Related_c (n : Nat) (A : Option Addr) (c : Nat) (xs : List Int) (i k : Nat) (kind : Int) (w : World) (hA : Rd w 1 A xs.length (ints xs)) (hn1 : 1 ≤ n) (hn : n ≤ 40) (hl : xs.length = n * n) (hP : M.InP n xs) (hi : i < n) (hk : k < n) (hkd : 1 ≤ kind ∧ kind ≤ 4) :
    Calls Try.prog 88 #[.agg #[.int .i64 n, .slice A xs.length c], .int .i64 i, .int .i64 k, .int .i64 kind] w fun e w' => e = .returned (.bool (decide (M.key n xs kind i = M.key n xs kind k))) ∧ Below w.heap.size w w' := by
  by_cases h4 : kind = 4
  case neg =>
    unfold M.key
    rw [if_neg h4, if_neg h4]
    exact l09Related_low n A c xs i k kind w hA hn1 hn hl hP (by omega) (by omega) (by omega)
  case pos =>
  subst h4
  rw [key_eq4]
  have HA := Lib.hid hA
  have H1 := Lib.hid (fun W h => l09Related_low n A c xs i k 1 W h hn1 hn hl hP (by omega) (by omega) (Or.inl rfl))
  have H2 := Lib.hid (fun W h => l09Related_low n A c xs i k 2 W h hn1 hn hl hP (by omega) (by omega) (Or.inr (Or.inl rfl)))
  have HP := Lib.hid ((Below.refl w.heap.size w).alloc (Nat.le_refl _) (.cells #[.int .i64 n, .slice A xs.length c] 40))
  clear hA hP hl
  generalize decide (M.ideal n xs 1 i = M.ideal n xs 1 k) = a at *
  generalize decide (M.ideal n xs 2 i = M.ideal n xs 2 k) = b at *
  generalize xs.length = xl at *
  cases a
  all_goals
    go_enter Try.func88, Try.ntmps88
    go_wp2_with fail
    refine (H1.out _ (HA.out.below HP.out)).mono ?_
    rintro e w1 ⟨rfl, hb⟩
    have c0 : w1.cell? ⟨w.heap.size, 0, none⟩ = some (.int .i64 n) := cellKeep hb (by simp [go_sem])
    have c1 : w1.cell? ⟨w.heap.size, 1, none⟩ = some (.slice A xl c) := cellKeep hb (by simp [go_sem])
    have HB := Lib.hid (below_alloc1 hb)
    clear hb
    go_wp2_with fail
  · go_ret
    exact ⟨rfl, HB.out⟩
  · refine (H2.out _ (HA.out.below HB.out)).mono ?_
    rintro e w2 ⟨rfl, hb⟩
    have HB2 := Lib.hid (HB.out.trans (hb.mono HB.out.size))
    clear hb
    go_wp2_with fail
    go_ret
    exact ⟨rfl, HB2.out⟩
end Go.Proofs.Ytlohpphmamapeaa
