/-
  Contracts of TableOk.
  Conditions: at most 2^20 entries.
-/
import Derived.Test.YtlohpphmamapeaaTimes
import Derived.Deep.RegionHeld3
namespace Go.Proofs.Ytlohpphmamapeaa
open Go.RowKit
set_option linter.unusedVariables false

theorem held2 {a w w1 : World} {b1 o1 b2 o2 : Nat} {u1 u2 : Value} (h : w.cell? ⟨b1, o1, none⟩ = some u1 ∧ w.cell? ⟨b2, o2, none⟩ = some u2 ∧ Below a.heap.size a w) (hb : Below w.heap.size w w1) :
    w1.cell? ⟨b1, o1, none⟩ = some u1 ∧ w1.cell? ⟨b2, o2, none⟩ = some u2 ∧ Below a.heap.size a w1 := ⟨cellKeep hb h.1, cellKeep hb h.2.1, below_then h.2.2 hb⟩
theorem held2_below {a w : World} {p1 p2 : Prop} (h : p1 ∧ p2 ∧ Below a.heap.size a w) : Below a.heap.size a w := h.2.2
theorem held2_of {a w : World} {b1 o1 b2 o2 : Nat} {u1 u2 : Value} (h1 : a.cell? ⟨b1, o1, none⟩ = some u1) (h2 : a.cell? ⟨b2, o2, none⟩ = some u2) (h : Below a.heap.size a w) : w.cell? ⟨b1, o1, none⟩ = some u1 ∧ w.cell? ⟨b2, o2, none⟩ = some u2 ∧ Below a.heap.size a w := ⟨cellKeep h h1, cellKeep h h2, h⟩
theorem within_size {k : Int} (h : ¬ (1 ≤ k ∧ k ≤ 40)) : M.within k 1 40 = false := by unfold M.within; simp; omega
theorem within_size' {k : Int} (h : 1 ≤ k ∧ k ≤ 40) : M.within k 1 40 = true := by unfold M.within; simp; omega
theorem tI_zero {n : Nat} {xs : List Int} (i : Nat) : M.tI n xs 0 i = M.tAt xs i := by unfold M.tI; simp
theorem tI_row {n : Nat} {xs : List Int} (i : Nat) : M.tI n xs i 0 = M.tAt xs (i * n) := by unfold M.tI; simp

set_option maxRecDepth 100000 in
set_option maxHeartbeats 4000000 in
theorem impl_TableOk_c (k : Int) (A : Option Addr) (c : Nat) (xs : List Int) (w : World) (hA : Rd w 1 A xs.length (ints xs)) (hl : xs.length ≤ 1048576) :
    Calls Try.prog 85 #[.agg #[.int .i64 k, .slice A xs.length c]] w fun e w' => e = .returned (.bool (M.TableOk k xs)) ∧ Below w.heap.size w w' := by
  have h1 := Lib.hid (fun W => within_c k 1 40 W)
  by_cases hk : 1 ≤ k ∧ k ≤ 40
  case neg =>
    rw [M.noSize hk]
    rw [within_size hk] at h1
    clear hA hk
    go_enter Try.func85, Try.ntmps85
    go_wp2_with fail
    refine (h1.out _).mono ?_
    rintro e w1 ⟨rfl, rfl⟩
    go_wp2_with fail
    go_ret
    exact ⟨rfl, (Below.refl _ _).alloc (Nat.le_refl _) _⟩
  case pos =>
  rw [within_size' hk] at h1
  obtain ⟨n, rfl⟩ : ∃ n : Nat, k = n := ⟨k.toNat, by omega⟩
  have hn1 : 1 ≤ n := by omega
  have hn : n ≤ 40 := by omega
  have hsq := M.sq_le hn
  obtain ⟨s, hs⟩ : ∃ s, s = n * n := ⟨_, rfl⟩
  have hss : (n : Int) * (n : Int) = (s : Int) := by rw [hs]; simp
  rw [← hs] at hsq
  by_cases hlen : xs.length = s
  case neg =>
    rw [M.noLen (by simpa [← hs] using hlen)]
    have hlen' : ((xs.length : Int) != (s : Int)) = true := by rw [bne_iff_ne]; omega
    clear hA hk hs hlen
    go_enter Try.func85, Try.ntmps85
    go_wp2_with fail
    refine (h1.out _).mono ?_
    rintro e w1 ⟨rfl, rfl⟩
    go_wp2_with fail
    go_ret
    exact ⟨rfl, (Below.refl _ _).alloc (Nat.le_refl _) _⟩
  case pos =>
  have hlen' : ((xs.length : Int) != (s : Int)) = false := by rw [hlen]; simp
  have HA := Lib.hid (show Rd w 1 A s (ints xs) from hlen ▸ hA)
  have HL : xs.length = n * n := hlen.trans hs
  have h2 := Lib.hid (fun W h => allWithin_c A c xs 0 ((n : Int) - 1) W h hl)
  rw [M.inP_iff] at h2
  by_cases hin : M.InP n xs
  case neg =>
    rw [M.noIn hin]
    rw [decide_eq_false hin] at h2
    have HLL := Lib.hid HL
    clear hA hk hs hin HL
    rw [hlen] at *
    go_enter Try.func85, Try.ntmps85
    go_wp2_with fail
    refine (h1.out _).mono ?_
    rintro e w1 ⟨rfl, rfl⟩
    go_wp2_with fail
    refine (h2.out _ (HA.out.below ((Below.refl _ _).alloc (Nat.le_refl _) _))).mono ?_
    rintro e w1 ⟨rfl, hb⟩
    go_wp2_with fail
    go_ret
    exact ⟨rfl, below_alloc1 hb⟩
  case pos =>
  rw [decide_eq_true hin] at h2
  have HIN := Lib.hid hin
  have HLL := Lib.hid HL
  have HT := Lib.hid (fun x y W h hx hy => times_c n A c xs x y W h hn HL hx hy)
  have HI := Lib.hid (fun x y hx hy => M.tI_in (n := n) (xs := xs) hin HL (x := x) (y := y) hx hy)
  have HOK := Lib.hid (fun (h : ∀ i, i < n → M.RowP n xs i) => M.rowsOk ⟨hn1, hn⟩ HL hin h)
  clear hA hk hs hin HL
  rw [hlen] at *
  go_enter Try.func85, Try.ntmps85
  go_wp2_with fail
  refine (h1.out _).mono ?_
  rintro e w1 ⟨rfl, rfl⟩
  go_wp2_with fail
  refine (h2.out _ (HA.out.below ((Below.refl _ _).alloc (Nat.le_refl _) _))).mono ?_
  rintro e w1 ⟨rfl, hb⟩
  have d0 : w1.cell? ⟨w.heap.size, 0, none⟩ = some (.int .i64 n) := cellKeep hb (by simp [go_sem])
  have d1 : w1.cell? ⟨w.heap.size, 1, none⟩ = some (.slice A s c) := cellKeep hb (by simp [go_sem])
  have HB := Lib.hid (below_alloc1 hb)
  clear hb
  go_wp2_with fail
  go_loopw [32] (fun z wr => ∃ i : Nat, i ≤ n ∧ z = .int .i64 i ∧ (∀ i', i' < i → M.RowP n xs i') ∧ wr.cell? ⟨w.heap.size, 0, none⟩ = some (.int .i64 n) ∧ wr.cell? ⟨w.heap.size, 1, none⟩ = some (.slice A s c) ∧ Below w.heap.size w wr) (fun z _ => n - (intOf z).toNat)
  case atStart => exact ⟨0, by omega, rfl, fun i' h => absurd h (by omega), d0, d1, HB.out⟩
  case round =>
    clear d0 d1 HB
    obtain ⟨i, hi, rfl, hrow, c0, c1, hb⟩ := hrel
    have HROW := Lib.hid hrow
    have HB := Lib.hid hb
    clear hrow hb
    by_cases hlt : i < n
    case neg =>
      go_wp2
      go_ret
      exact ⟨ret_bool (HOK.out (fun j hj => HROW.out j (by omega))).symm, HB.out⟩
    case pos =>
    have hi0 : 0 ≤ (i : Int) ∧ (i : Int) < n := by omega
    have h00 : 0 ≤ (0 : Int) ∧ (0 : Int) < n := by omega
    have ht1 := Lib.hid (fun W h => HT.out 0 i W h h00 hi0)
    have ht2 := Lib.hid (fun W h => HT.out i 0 W h hi0 h00)
    rw [tI_zero] at ht1
    rw [tI_row] at ht2
    have HU := Lib.hid (fun h => M.noUnit (n := n) (xs := xs) (i := i) hlt h)
    by_cases hu1 : M.tAt xs i = i
    case neg =>
      have HNO := Lib.hid (HU.out (fun h => hu1 h.1))
      have hu1' : (M.tAt xs i != (i : Int)) = true := by rw [bne_iff_ne]; exact hu1
      generalize M.tAt xs i = u1 at *
      clear hu1
      go_wp2_with fail
      refine (ht1.out _ (HA.out.below HB.out)).mono ?_
      rintro e w2 ⟨rfl, hb2⟩
      go_wp2_with fail
      go_ret
      exact ⟨ret_bool HNO.out.symm, HB.out.trans (hb2.mono HB.out.size)⟩
    case pos =>
    by_cases hu2 : M.tAt xs (i * n) = i
    case neg =>
      have HNO := Lib.hid (HU.out (fun h => hu2 h.2))
      have hu2' : (M.tAt xs (i * n) != (i : Int)) = true := by rw [bne_iff_ne]; exact hu2
      rw [hu1] at ht1
      generalize M.tAt xs (i * n) = u2 at *
      clear hu1 hu2
      go_wp2_with fail
      refine (ht1.out _ (HA.out.below HB.out)).mono ?_
      rintro e w2 ⟨rfl, hb2⟩
      have c0' := cellKeep hb2 c0
      have c1' := cellKeep hb2 c1
      have HB2 := Lib.hid (HB.out.trans (hb2.mono HB.out.size))
      clear hb2
      go_wp2_with fail
      refine (ht2.out _ (HA.out.below HB2.out)).mono ?_
      rintro e w3 ⟨rfl, hb3⟩
      go_wp2_with fail
      go_ret
      exact ⟨ret_bool HNO.out.symm, HB2.out.trans (hb3.mono HB2.out.size)⟩
    case pos =>
      have HUP := Lib.hid (show M.UnitP n xs i from ⟨hu1, hu2⟩)
      rw [hu1] at ht1
      rw [hu2] at ht2
      clear hu1 hu2
      go_wp2_with fail
      refine (ht1.out _ (HA.out.below HB.out)).mono ?_
      rintro e w2 ⟨rfl, hb2⟩
      have c0' := cellKeep hb2 c0
      have c1' := cellKeep hb2 c1
      have HB2 := Lib.hid (HB.out.trans (hb2.mono HB.out.size))
      clear hb2
      go_wp2_with fail
      refine (ht2.out _ (HA.out.below HB2.out)).mono ?_
      rintro e w3 ⟨rfl, hb3⟩
      have c0'' := cellKeep hb3 c0'
      have c1'' := cellKeep hb3 c1'
      have HB3 := Lib.hid (HB2.out.trans (hb3.mono HB2.out.size))
      clear hb3 c0 c1 c0' c1' HB HB2
      go_wp2_with fail
      go_loopw [49] (fun z wr => ∃ j : Nat, j ≤ n ∧ z = .int .i64 j ∧ (∀ j', j' < j → ∀ l, l < n → M.AssocP n xs i j' l) ∧ wr.cell? ⟨w.heap.size, 0, none⟩ = some (.int .i64 n) ∧ wr.cell? ⟨w.heap.size, 1, none⟩ = some (.slice A s c) ∧ Below w.heap.size w wr) (fun z _ => n - (intOf z).toNat)
      case atStart => exact ⟨0, by omega, rfl, fun i' h => absurd h (by omega), c0'', c1'', HB3.out⟩
      case round =>
        clear c0'' c1'' HB3
        obtain ⟨j, hj, rfl, hcol, c0, c1, hb⟩ := hrel
        have HCOL := Lib.hid hcol
        have HB := Lib.hid hb
        clear hcol hb
        by_cases hltj : j < n
        case neg =>
          go_wp2
          go_roundw
          case rel => exact ⟨i + 1, by omega, by go_num, fun i' h => by
            by_cases he : i' = i
            · subst he; exact ⟨HUP.out, fun j' hj' => HCOL.out j' (by omega)⟩
            · exact HROW.out i' (by omega), c0, c1, HB.out⟩
          case measure => simp [intOf]; omega
        case pos =>
        go_wp2
        go_loopw [54] (fun z wr => ∃ l : Nat, l ≤ n ∧ z = .int .i64 l ∧ (∀ l', l' < l → M.AssocP n xs i j l') ∧ wr.cell? ⟨w.heap.size, 0, none⟩ = some (.int .i64 n) ∧ wr.cell? ⟨w.heap.size, 1, none⟩ = some (.slice A s c) ∧ Below w.heap.size w wr) (fun z _ => n - (intOf z).toNat)
        case atStart => exact ⟨0, by omega, rfl, fun i' h => absurd h (by omega), c0, c1, HB.out⟩
        case round =>
          clear c0 c1 HB
          obtain ⟨l, hl, rfl, hlast, c0, c1, hb⟩ := hrel
          have HLAST := Lib.hid hlast
          have HB := Lib.hid hb
          clear hlast hb
          by_cases hltl : l < n
          case neg =>
            go_wp2
            go_roundw
            case rel => exact ⟨j + 1, by omega, by go_num, fun j' h l' hl' => by
              by_cases he : j' = j
              · subst he; exact HLAST.out l' (by omega)
              · exact HCOL.out j' (by omega) l' hl', c0, c1, HB.out⟩
            case measure => simp [intOf]; omega
          case pos =>
          have hj0 : 0 ≤ (j : Int) ∧ (j : Int) < n := by omega
          have hl0 : 0 ≤ (l : Int) ∧ (l : Int) < n := by omega
          have hij := HI.out i j hi0 hj0
          have hjl := HI.out j l hj0 hl0
          obtain ⟨wo, hwo⟩ : ∃ wo : World, wo = wr := ⟨_, rfl⟩
          by_cases has : M.AssocP n xs i j l
          case neg =>
            have has' : (M.tI n xs (M.tI n xs i j) l != M.tI n xs i (M.tI n xs j l)) = true := by rw [bne_iff_ne]; exact has
            have HNO := Lib.hid (M.noAssoc hlt hltj hltl has)
            clear has hwo
            go_wp2_with fail
            go_region_held3 (fun w' => w'.cell? ⟨w.heap.size, 0, none⟩ = some (.int .i64 n) ∧ w'.cell? ⟨w.heap.size, 1, none⟩ = some (.slice A s c) ∧ Below wr.heap.size wr w') (first | exact ⟨c0, c1, (Below.refl _ _).drew⟩ | assumption | exact held2 (by assumption) hbt) (first | (go_simp; go_at_call 129; refine (HT.out _ _ _ ((HA.out.below HB.out).below (held2_below (by assumption))) (by assumption) (by assumption)).mono ?_; rintro e wt ⟨rfl, hbt⟩))
            all_goals
              have hh := held2_below (a := wr) (by assumption)
              go_wp2
              go_ret
              exact ⟨ret_bool HNO.out.symm, HB.out.trans (hh.mono HB.out.size)⟩
          case pos =>
            have has' : (M.tI n xs (M.tI n xs i j) l != M.tI n xs i (M.tI n xs j l)) = false := by rw [bne_eq_false_iff_eq]; exact has
            have HAS := Lib.hid has
            clear has hwo
            go_wp2_with fail
            go_region_held3 (fun w' => w'.cell? ⟨w.heap.size, 0, none⟩ = some (.int .i64 n) ∧ w'.cell? ⟨w.heap.size, 1, none⟩ = some (.slice A s c) ∧ Below wr.heap.size wr w') (first | exact ⟨c0, c1, (Below.refl _ _).drew⟩ | assumption | exact held2 (by assumption) hbt) (first | (go_simp; go_at_call 129; refine (HT.out _ _ _ ((HA.out.below HB.out).below (held2_below (by assumption))) (by assumption) (by assumption)).mono ?_; rintro e wt ⟨rfl, hbt⟩))
            all_goals
              have hS : wt.cell? ⟨w.heap.size, 0, none⟩ = some (.int .i64 n) ∧ wt.cell? ⟨w.heap.size, 1, none⟩ = some (.slice A s c) ∧ Below wr.heap.size wr wt := by assumption
              go_wp2
              go_roundw
              case rel => exact ⟨l + 1, by omega, by go_num, fun l' h => by
                by_cases he : l' = l
                · subst he; exact HAS.out
                · exact HLAST.out l' (by omega), hS.1, hS.2.1, HB.out.trans (hS.2.2.mono HB.out.size)⟩
              case measure => simp [intOf]; omega

end Go.Proofs.Ytlohpphmamapeaa
