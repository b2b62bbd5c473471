/-
  Contracts of CountMaps and FirstMap of the reference.
  Conditions: at most 2^20 rules, entries.
-/
import Derived.Test.YtlohpphmamapeaaMapC
import Derived.Test.YtlohpphmamapeaaSatR
import Derived.Deep.RegionHeld3
namespace Go.Proofs.Ytlohpphmamapeaa
open Go.RowKit
set_option linter.unusedVariables false
set_option linter.unusedSimpArgs false

theorem held4' {w w1 : World} {b0 o0 b1 o1 b2 o2 b3 o3 : Nat} {u0 u1 u2 u3 : Value} (h : w.cell? ⟨b0, o0, none⟩ = some u0 ∧ w.cell? ⟨b1, o1, none⟩ = some u1 ∧ w.cell? ⟨b2, o2, none⟩ = some u2 ∧ w.cell? ⟨b3, o3, none⟩ = some u3) (hb : Below w.heap.size w w1) : w1.cell? ⟨b0, o0, none⟩ = some u0 ∧ w1.cell? ⟨b1, o1, none⟩ = some u1 ∧ w1.cell? ⟨b2, o2, none⟩ = some u2 ∧ w1.cell? ⟨b3, o3, none⟩ = some u3 :=
  ⟨cellKeep hb h.1, cellKeep hb h.2.1, cellKeep hb h.2.2.1, cellKeep hb h.2.2.2⟩
set_option maxRecDepth 100000 in
set_option maxHeartbeats 4000000 in
theorem spec_CountMaps_c (k : Int) (D : Option Addr) (e0 : Nat) (rs : List M.Rule) (n0 : Int) (A : Option Addr) (c : Nat) (xs : List Int) (w : World) (hD : Rd w 2 D rs.length (ruls rs)) (hA : Rd w 1 A xs.length (ints xs)) (hl : rs.length ≤ 1048576) (hs : ∀ r ∈ rs, r.left.length ≤ 1048576 ∧ r.right.length ≤ 1048576) (hl1 : xs.length ≤ 1048576) :
    Calls Try.prog 31 #[.agg #[.int .i64 k, .slice D rs.length e0], .agg #[.int .i64 n0, .slice A xs.length c]] w fun e w' => e = .returned (.int .i64 (M.CountMaps k rs n0 xs)) ∧ Below w.heap.size w w' := by
  have HA := Lib.hid hA
  have HD := Lib.hid hD
  have h1 := Lib.hid (fun W h h' => l11Lists_c k D e0 rs n0 A c xs W h h' hl hs hl1)
  have BT := Lib.hid (below_two w (.cells #[.int .i64 k, .slice D rs.length e0] 28) (.cells #[.int .i64 n0, .slice A xs.length c] 40))
  obtain ⟨res, hres⟩ : ∃ res, res = M.CountMaps k rs n0 xs := ⟨_, rfl⟩
  rw [← hres]
  by_cases hmp : M.isMapped k rs n0 xs = true
  case neg =>
    have hmf : M.isMapped k rs n0 xs = false := by simpa using hmp
    rw [lists_no hmf] at h1
    have HR := Lib.hid (show res = -1 by rw [hres]; unfold M.CountMaps; rw [if_neg hmp])
    clear hA hD hres hmp hmf hl hs hl1
    generalize xs.length = xl at *
    generalize rs.length = rl at *
    go_enter Try.func31, Try.ntmps31
    go_wp2_with fail
    refine (h1.out _ (HD.out.below BT.out) (HA.out.below BT.out)).mono ?_
    rintro e w1 ⟨rfl, hb⟩
    have HB := Lib.hid (below_alloc2 hb)
    clear hb
    go_wp2_with fail
    go_loop [5, 7] (fun s z => s = .int .i64 0 ∧ z = .int .i64 0) (fun _ _ => 0)
    case atStart => exact ⟨rfl, rfl⟩
    case round =>
      obtain ⟨rfl, rfl⟩ := hrel
      go_wp2_with fail
      go_ret
      exact ⟨ret_int HR.out.symm, HB.out⟩
  case pos =>
    obtain ⟨ho1, ho2⟩ := mapped_ok hmp
    obtain ⟨m, n, hmo⟩ := maps_of ho1 ho2 hs
    have hdec := mapped_yes ho1 ho2 hmo
    rw [hmp] at hdec
    have hN : n ^ m ≤ 4096 := of_decide_eq_true hdec.symm
    obtain ⟨rfl, rfl, hm4, hn40, hlen, hinp, hfit⟩ := hmo
    have HL := Lib.hid (show M.listsOf m rs n xs = ((n ^ m : Nat) : Int) by unfold M.listsOf; rw [if_pos hmp]; rfl)
    rw [HL.out] at h1
    obtain ⟨f, hf⟩ : ∃ f, f = M.fitsAt n m rs xs := ⟨_, rfl⟩
    have HR := Lib.hid (show res = ((M.countTo f (n ^ m) : Nat) : Int) by rw [hres, hf]; unfold M.CountMaps; rw [if_pos hmp]; rfl)
    have H2 := Lib.hid (show ∀ (i : Nat) (W : World), i ≤ 4096 → Calls Try.prog 77 #[.agg #[.int .i64 (m : Int), .slice D rs.length e0], .agg #[.int .i64 (n : Int), .slice A xs.length c], .int .i64 (i : Int)] W (RetRd (fun A c => .slice A m c) 1 m (ints (M.imgs n m i)) W) from fun i W hi => l11Images_c m D rs.length e0 n A xs.length c i W hm4 hn40 hi)
    have H3 := Lib.hid (show ∀ (i : Nat) (B : Option Addr) (d : Nat) (W : World), Rd W 1 A xs.length (ints xs) → Rd W 1 B m (ints (M.imgs n m i)) → Rd W 2 D rs.length (ruls rs) → Calls Try.prog 76 #[.agg #[.int .i64 (m : Int), .slice D rs.length e0], .agg #[.int .i64 (n : Int), .slice A xs.length c], .slice B m d] W (fun e w' => e = .returned (.bool (f i)) ∧ Below W.heap.size W w') from fun i B d W h1 h2 h3 => by
      have hil := imgs_len n m i
      have h := l11Fits_c n A c xs B d (M.imgs n m i) hn40.1 hn40.2 hlen hinp (by omega) (imgs_inp hn40.1 m i) m D e0 rs W h1 (by rw [hil]; exact h2) h3 hl (by rw [hil]; exact hfit)
      rw [hil] at h
      rw [hf]
      exact h)
    have HCY := Lib.hid (fun i (h : f i = true) => count_yes (f := f) (i := i) h)
    have HCN := Lib.hid (fun i (h : f i = false) => count_no (f := f) (i := i) h)
    have HCL := Lib.hid (fun i => count_le f i)
    have HC0 := Lib.hid (show M.countTo f 0 = 0 from rfl)
    clear hA hD hres hmp hdec hl hs hl1 ho1 ho2 hf hlen hinp hfit HL
    generalize xs.length = xl at *
    generalize rs.length = rl at *
    obtain ⟨N, hNN⟩ : ∃ N, N = n ^ m := ⟨_, rfl⟩
    rw [← hNN] at h1 HR hN
    clear hNN
    go_enter Try.func31, Try.ntmps31
    go_wp2_with fail
    refine (h1.out _ (HD.out.below BT.out) (HA.out.below BT.out)).mono ?_
    rintro e w1 ⟨rfl, hb⟩
    have A0 := Lib.hid (show w1.cell? ⟨w.heap.size, 0, none⟩ = some (.int .i64 (m : Int)) from cellKeep hb (by simp [go_sem]))
    have A1 := Lib.hid (show w1.cell? ⟨w.heap.size, 1, none⟩ = some (.slice D rl e0) from cellKeep hb (by simp [go_sem]))
    have B0 := Lib.hid (show w1.cell? ⟨w.heap.size + 1, 0, none⟩ = some (.int .i64 (n : Int)) from cellKeep hb (by simp [go_sem]))
    have B1 := Lib.hid (show w1.cell? ⟨w.heap.size + 1, 1, none⟩ = some (.slice A xl c) from cellKeep hb (by simp [go_sem]))
    have T1 := Lib.hid (below_alloc2 hb)
    clear hb
    go_wp2_with fail
    go_loopw [5, 7] (fun s z wr => ∃ i : Nat, i ≤ N ∧ z = .int .i64 (i : Int) ∧ s = .int .i64 ((M.countTo f i : Nat) : Int) ∧ Below w1.heap.size w1 wr) (fun _ z _ => N - (intOf z).toNat)
    case atStart => exact ⟨0, by omega, rfl, by rw [HC0.out]; rfl, Below.refl _ _⟩
    case round =>
      obtain ⟨i, hi, rfl, rfl, hb⟩ := hrel
      have HB := Lib.hid hb
      clear hb
      by_cases hlt : i < N
      case neg =>
        obtain rfl : i = N := by omega
        have hneg : ¬ ((i : Int) < 0) := by omega
        go_wp2_with fail
        go_ret
        exact ⟨ret_int HR.out.symm, T1.out.trans (HB.out.mono T1.out.size)⟩
      case pos =>
        have a0 := cellKeep HB.out A0.out
        have a1 := cellKeep HB.out A1.out
        have b0 := cellKeep HB.out B0.out
        have b1 := cellKeep HB.out B1.out
        have RA := Lib.hid (HA.out.below (T1.out.trans (HB.out.mono T1.out.size)))
        have RD := Lib.hid (HD.out.below (T1.out.trans (HB.out.mono T1.out.size)))
        have h2 := Lib.hid (fun W => H2.out i W (by omega))
        have h3 := Lib.hid (H3.out i)
        have hcl := HCL.out i
        cases hfi : f i with
        | true =>
          have HS := Lib.hid (HCY.out i hfi)
          rw [hfi] at h3
          clear hfi
          generalize M.countTo f i = v at *
          go_wp2_with fail
          go_region_held3 (fun w' => w'.cell? ⟨w.heap.size, 0, none⟩ = some (.int .i64 (m : Int)) ∧ w'.cell? ⟨w.heap.size, 1, none⟩ = some (.slice D rl e0) ∧ w'.cell? ⟨w.heap.size + 1, 0, none⟩ = some (.int .i64 (n : Int)) ∧ w'.cell? ⟨w.heap.size + 1, 1, none⟩ = some (.slice A xl c)) (first | exact ⟨a0, a1, b0, b1⟩ | exact held4' (by assumption) hb4 | exact held4' (by assumption) hb5) (first
            | (go_simp; go_at_call 77; refine (h2.out _).mono ?_; rintro e w4 ⟨A4, c4, rfl, ho4, hb4⟩; have R4 := Lib.hid (RA.out.below (below_drew1 hb4)); have D4 := Lib.hid (RD.out.below (below_drew1 hb4)))
            | (go_simp; go_at_call 76; refine (h3.out _ _ _ R4.out ho4.rd D4.out).mono ?_; rintro e w5 ⟨rfl, hb5⟩))
          all_goals
            have HB5 := Lib.hid (HB.out.trans ((below_then (below_drew1 hb4) hb5).mono HB.out.size))
            clear hb4 hb5 ho4 a0 a1 b0 b1
            go_wp2_with fail
            go_roundw
            case rel => exact ⟨i + 1, by omega, by go_num, by rw [HS.out]; go_num, HB5.out⟩
            case measure => simp [intOf] <;> omega
        | false =>
          have HS := Lib.hid (HCN.out i hfi)
          rw [hfi] at h3
          clear hfi
          generalize M.countTo f i = v at *
          go_wp2_with fail
          go_region_held3 (fun w' => w'.cell? ⟨w.heap.size, 0, none⟩ = some (.int .i64 (m : Int)) ∧ w'.cell? ⟨w.heap.size, 1, none⟩ = some (.slice D rl e0) ∧ w'.cell? ⟨w.heap.size + 1, 0, none⟩ = some (.int .i64 (n : Int)) ∧ w'.cell? ⟨w.heap.size + 1, 1, none⟩ = some (.slice A xl c)) (first | exact ⟨a0, a1, b0, b1⟩ | exact held4' (by assumption) hb4 | exact held4' (by assumption) hb5) (first
            | (go_simp; go_at_call 77; refine (h2.out _).mono ?_; rintro e w4 ⟨A4, c4, rfl, ho4, hb4⟩; have R4 := Lib.hid (RA.out.below (below_drew1 hb4)); have D4 := Lib.hid (RD.out.below (below_drew1 hb4)))
            | (go_simp; go_at_call 76; refine (h3.out _ _ _ R4.out ho4.rd D4.out).mono ?_; rintro e w5 ⟨rfl, hb5⟩))
          all_goals
            have HB5 := Lib.hid (HB.out.trans ((below_then (below_drew1 hb4) hb5).mono HB.out.size))
            clear hb4 hb5 ho4 a0 a1 b0 b1
            go_wp2_with fail
            go_roundw
            case rel => exact ⟨i + 1, by omega, by go_num, by rw [HS.out], HB5.out⟩
            case measure => simp [intOf] <;> omega
/-- A call that returns a list of its own and whether there is one. -/
def RetFM (z : List Int × Bool) (w : World) (e : Ending) (w' : World) : Prop := ∃ A c, e = .returned (.tuple #[.slice A z.1.length c, .bool z.2]) ∧ Own w' w.heap.size 1 A z.1.length (ints z.1) ∧ Below w.heap.size w w'
theorem retFM_none {z : List Int × Bool} (h : z = ([], false)) {w w' : World} (hb : Below w.heap.size w w') : RetFM z w (.returned (.tuple #[.slice none 0 0, .bool false])) w' := by
  subst h
  exact ⟨none, 0, rfl, ⟨rfl, fun h => absurd h (by simp)⟩, hb⟩
theorem retFM_some {z : List Int × Bool} {l : List Int} {m : Nat} (h : z = (l, true)) (hl : l.length = m) {w w' : World} {A : Option Addr} {c : Nat} (ho : Own w' w.heap.size 1 A m (ints l)) (hb : Below w.heap.size w w') : RetFM z w (.returned (.tuple #[.slice A m c, .bool true])) w' := by
  subst h; subst hl
  exact ⟨A, c, rfl, ho, hb⟩
theorem firstMap_no {k : Int} {rs : List M.Rule} {n0 : Int} {xs : List Int} (h : ¬ M.isMapped k rs n0 xs = true) : M.FirstMap k rs n0 xs = ([], false) := if_neg h
theorem firstMap_some {m n : Nat} {rs : List M.Rule} {xs : List Int} (h : M.isMapped m rs n xs = true) {i : Nat} (ho : M.firstFrom (M.fitsAt n m rs xs) 1 (n ^ m - 1) = some i) : M.FirstMap m rs n xs = (M.imgs n m i, true) := by
  unfold M.FirstMap
  rw [if_pos h]
  simp only [Int.toNat_natCast]
  rw [ho]
theorem firstMap_none {m n : Nat} {rs : List M.Rule} {xs : List Int} (h : M.isMapped m rs n xs = true) (ho : M.firstFrom (M.fitsAt n m rs xs) 1 (n ^ m - 1) = none) : M.FirstMap m rs n xs = ([], false) := by
  unfold M.FirstMap
  rw [if_pos h]
  simp only [Int.toNat_natCast]
  rw [ho]
set_option maxRecDepth 100000 in
set_option maxHeartbeats 4000000 in
theorem spec_FirstMap_c (k : Int) (D : Option Addr) (e0 : Nat) (rs : List M.Rule) (n0 : Int) (A : Option Addr) (c : Nat) (xs : List Int) (w : World) (hD : Rd w 2 D rs.length (ruls rs)) (hA : Rd w 1 A xs.length (ints xs)) (hl : rs.length ≤ 1048576) (hs : ∀ r ∈ rs, r.left.length ≤ 1048576 ∧ r.right.length ≤ 1048576) (hl1 : xs.length ≤ 1048576) :
    Calls Try.prog 33 #[.agg #[.int .i64 k, .slice D rs.length e0], .agg #[.int .i64 n0, .slice A xs.length c]] w (RetFM (M.FirstMap k rs n0 xs) w) := by
  have HA := Lib.hid hA
  have HD := Lib.hid hD
  have h1 := Lib.hid (fun W h h' => l11Lists_c k D e0 rs n0 A c xs W h h' hl hs hl1)
  have BT := Lib.hid (below_two w (.cells #[.int .i64 k, .slice D rs.length e0] 28) (.cells #[.int .i64 n0, .slice A xs.length c] 40))
  obtain ⟨res, hres⟩ : ∃ res, res = M.FirstMap k rs n0 xs := ⟨_, rfl⟩
  rw [← hres]
  by_cases hmp : M.isMapped k rs n0 xs = true
  case neg =>
    have hmf : M.isMapped k rs n0 xs = false := by simpa using hmp
    rw [lists_no hmf] at h1
    have HR := Lib.hid (show res = ([], false) by rw [hres]; exact firstMap_no hmp)
    clear hA hD hres hmp hmf hl hs hl1
    generalize xs.length = xl at *
    generalize rs.length = rl at *
    go_enter Try.func33, Try.ntmps33
    go_wp2_with fail
    refine (h1.out _ (HD.out.below BT.out) (HA.out.below BT.out)).mono ?_
    rintro e w1 ⟨rfl, hb⟩
    have HB := Lib.hid (below_alloc2 hb)
    clear hb
    go_wp2_with fail
    go_loop [7] (fun z => z = .int .i64 1) (fun _ => 0)
    case atStart => exact rfl
    case round =>
      obtain rfl := hrel
      go_wp2_with fail
      go_ret2
      exact retFM_none HR.out HB.out
  case pos =>
    obtain ⟨ho1, ho2⟩ := mapped_ok hmp
    obtain ⟨m, n, hmo⟩ := maps_of ho1 ho2 hs
    have hdec := mapped_yes ho1 ho2 hmo
    rw [hmp] at hdec
    have hN : n ^ m ≤ 4096 := of_decide_eq_true hdec.symm
    obtain ⟨rfl, rfl, hm4, hn40, hlen, hinp, hfit⟩ := hmo
    have HL := Lib.hid (show M.listsOf m rs n xs = ((n ^ m : Nat) : Int) by unfold M.listsOf; rw [if_pos hmp]; rfl)
    rw [HL.out] at h1
    obtain ⟨f, hf⟩ : ∃ f, f = M.fitsAt n m rs xs := ⟨_, rfl⟩
    have HRN := Lib.hid (show M.firstFrom f 1 (n ^ m - 1) = none → res = ([], false) from fun h => by rw [hres]; exact firstMap_none hmp (by rw [← hf]; exact h))
    have HRS := Lib.hid (show ∀ i, M.firstFrom f 1 (n ^ m - 1) = some i → res = (M.imgs n m i, true) from fun i h => by rw [hres]; exact firstMap_some hmp (by rw [← hf]; exact h))
    have HIL := Lib.hid (fun i => imgs_len n m i)
    have H2 := Lib.hid (show ∀ (i : Nat) (W : World), i ≤ 4096 → Calls Try.prog 77 #[.agg #[.int .i64 (m : Int), .slice D rs.length e0], .agg #[.int .i64 (n : Int), .slice A xs.length c], .int .i64 (i : Int)] W (RetRd (fun A c => .slice A m c) 1 m (ints (M.imgs n m i)) W) from fun i W hi => l11Images_c m D rs.length e0 n A xs.length c i W hm4 hn40 hi)
    have H3 := Lib.hid (show ∀ (i : Nat) (B : Option Addr) (d : Nat) (W : World), Rd W 1 A xs.length (ints xs) → Rd W 1 B m (ints (M.imgs n m i)) → Rd W 2 D rs.length (ruls rs) → Calls Try.prog 76 #[.agg #[.int .i64 (m : Int), .slice D rs.length e0], .agg #[.int .i64 (n : Int), .slice A xs.length c], .slice B m d] W (fun e w' => e = .returned (.bool (f i)) ∧ Below W.heap.size W w') from fun i B d W h1 h2 h3 => by
      have hil := imgs_len n m i
      have h := l11Fits_c n A c xs B d (M.imgs n m i) hn40.1 hn40.2 hlen hinp (by omega) (imgs_inp hn40.1 m i) m D e0 rs W h1 (by rw [hil]; exact h2) h3 hl (by rw [hil]; exact hfit)
      rw [hil] at h
      rw [hf]
      exact h)
    have hN1 : 0 < n ^ m := Nat.pow_pos (by omega)
    clear hA hD hres hmp hdec hl hs hl1 ho1 ho2 hf hlen hinp hfit HL
    generalize xs.length = xl at *
    generalize rs.length = rl at *
    obtain ⟨N, hNN⟩ : ∃ N, N = n ^ m := ⟨_, rfl⟩
    rw [← hNN] at h1 HRN HRS hN hN1
    clear hNN
    go_enter Try.func33, Try.ntmps33
    go_wp2_with fail
    refine (h1.out _ (HD.out.below BT.out) (HA.out.below BT.out)).mono ?_
    rintro e w1 ⟨rfl, hb⟩
    have A0 := Lib.hid (show w1.cell? ⟨w.heap.size, 0, none⟩ = some (.int .i64 (m : Int)) from cellKeep hb (by simp [go_sem]))
    have A1 := Lib.hid (show w1.cell? ⟨w.heap.size, 1, none⟩ = some (.slice D rl e0) from cellKeep hb (by simp [go_sem]))
    have B0 := Lib.hid (show w1.cell? ⟨w.heap.size + 1, 0, none⟩ = some (.int .i64 (n : Int)) from cellKeep hb (by simp [go_sem]))
    have B1 := Lib.hid (show w1.cell? ⟨w.heap.size + 1, 1, none⟩ = some (.slice A xl c) from cellKeep hb (by simp [go_sem]))
    have T1 := Lib.hid (below_alloc2 hb)
    clear hb
    go_wp2_with fail
    go_loopw [7] (fun z wr => ∃ i : Nat, 1 ≤ i ∧ i ≤ N ∧ z = .int .i64 (i : Int) ∧ M.firstFrom f 1 (N - 1) = M.firstFrom f i (N - i) ∧ Below w1.heap.size w1 wr) (fun z _ => N - (intOf z).toNat)
    case atStart => exact ⟨1, by omega, by omega, rfl, rfl, Below.refl _ _⟩
    case round =>
      obtain ⟨i, hi1, hi, rfl, hff, hb⟩ := hrel
      have HB := Lib.hid hb
      have HFF := Lib.hid hff
      clear hb hff
      by_cases hlt : i < N
      case neg =>
        obtain rfl : i = N := by omega
        have HR := Lib.hid (HRN.out (by rw [HFF.out, Nat.sub_self]; rfl))
        go_wp2_with fail
        go_ret2
        exact retFM_none HR.out (T1.out.trans (HB.out.mono T1.out.size))
      case pos =>
        have a0 := cellKeep HB.out A0.out
        have a1 := cellKeep HB.out A1.out
        have b0 := cellKeep HB.out B0.out
        have b1 := cellKeep HB.out B1.out
        have RA := Lib.hid (HA.out.below (T1.out.trans (HB.out.mono T1.out.size)))
        have RD := Lib.hid (HD.out.below (T1.out.trans (HB.out.mono T1.out.size)))
        have h2 := Lib.hid (fun W => H2.out i W (by omega))
        have h3 := Lib.hid (H3.out i)
        have hbase : w.heap.size ≤ wr.heap.size := by have h1 := T1.out.size; have h2 := HB.out.size; omega
        cases hfi : f i with
        | true =>
          have HR := Lib.hid (HRS.out i (by rw [HFF.out]; exact first_hit' hfi (by omega)))
          rw [hfi] at h3
          clear hfi
          go_wp2_with fail
          refine (h2.out _).mono ?_
          rintro e w4 ⟨A4, c4, rfl, ho4, hb4⟩
          have R4 := Lib.hid (RA.out.below hb4)
          have D4 := Lib.hid (RD.out.below hb4)
          have O4 := Lib.hid ho4
          replace a0 := cellKeep hb4 a0
          replace a1 := cellKeep hb4 a1
          replace b0 := cellKeep hb4 b0
          replace b1 := cellKeep hb4 b1
          have HB4 := Lib.hid (HB.out.trans (hb4.mono HB.out.size))
          clear hb4 ho4
          go_wp2_with fail
          refine (h3.out _ _ _ R4.out O4.out.rd D4.out).mono ?_
          rintro e w5 ⟨rfl, hb5⟩
          have O5 := Lib.hid ((O4.out.below hb5).mono hbase)
          have HB5 := Lib.hid (HB4.out.trans (hb5.mono HB4.out.size))
          clear hb5 a0 a1 b0 b1
          go_wp2_with fail
          go_ret2
          exact retFM_some HR.out (HIL.out i) O5.out (T1.out.trans (HB5.out.mono T1.out.size))
        | false =>
          have HS := Lib.hid (show M.firstFrom f 1 (N - 1) = M.firstFrom f (i + 1) (N - (i + 1)) by rw [HFF.out, first_miss hfi (by omega)]; congr 1)
          rw [hfi] at h3
          clear hfi
          go_wp2_with fail
          refine (h2.out _).mono ?_
          rintro e w4 ⟨A4, c4, rfl, ho4, hb4⟩
          have R4 := Lib.hid (RA.out.below hb4)
          have D4 := Lib.hid (RD.out.below hb4)
          have O4 := Lib.hid ho4
          replace a0 := cellKeep hb4 a0
          replace a1 := cellKeep hb4 a1
          replace b0 := cellKeep hb4 b0
          replace b1 := cellKeep hb4 b1
          have HB4 := Lib.hid (HB.out.trans (hb4.mono HB.out.size))
          clear hb4 ho4
          go_wp2_with fail
          refine (h3.out _ _ _ R4.out O4.out.rd D4.out).mono ?_
          rintro e w5 ⟨rfl, hb5⟩
          have HB5 := Lib.hid (HB4.out.trans (hb5.mono HB4.out.size))
          clear hb5 a0 a1 b0 b1
          go_wp2_with fail
          go_roundw
          case rel => exact ⟨i + 1, by omega, by omega, by go_num, HS.out, HB5.out⟩
          case measure => simp [intOf] <;> omega
end Go.Proofs.Ytlohpphmamapeaa
