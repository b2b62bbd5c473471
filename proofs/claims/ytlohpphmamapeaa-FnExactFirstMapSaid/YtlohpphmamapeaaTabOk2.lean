/-
  Contracts of the reference's TableOk.
  Conditions: at most 2^20 entries.
-/
import Derived.Test.YtlohpphmamapeaaTabOk
namespace Go.Proofs.Ytlohpphmamapeaa
open Go.RowKit
set_option linter.unusedVariables false

theorem inP_drop {n : Nat} {xs : List Int} {k : Nat} (hk : k < xs.length) (h : M.InP n (xs.take k)) (hx : 0 ≤ xs[k] ∧ xs[k] ≤ (n : Int) - 1) : M.InP n (xs.take (k + 1)) := by
  rw [List.take_succ_eq_append_getElem hk]
  intro x hm
  rcases List.mem_append.1 hm with hm | hm
  · exact h x hm
  · simp at hm; subst hm; exact hx
set_option maxRecDepth 100000 in
set_option maxHeartbeats 4000000 in
theorem spec_TableOk_c (k : Int) (A : Option Addr) (c : Nat) (xs : List Int) (w : World) (hA : Rd w 1 A xs.length (ints xs)) (hl : xs.length ≤ 1048576) :
    Calls Try.prog 83 #[.agg #[.int .i64 k, .slice A xs.length c]] w fun e w' => e = .returned (.bool (M.TableOk k xs)) ∧ Below w.heap.size w w' := by
  have h1 := Lib.hid (fun W => l01In_c k 1 40 W)
  by_cases hk : 1 ≤ k ∧ k ≤ 40
  case neg =>
    rw [M.noSize hk]
    rw [within_size hk] at h1
    clear hA hk
    go_enter Try.func83, Try.ntmps83
    go_wp2_with fail
    refine (h1.out _).mono ?_
    rintro e w1 ⟨rfl, rfl⟩
    go_wp2_with fail
    go_ret
    exact ⟨rfl, (Below.refl _ _).alloc (Nat.le_refl _) _⟩
  case pos =>
  rw [within_size' hk] at h1
  obtain ⟨n, rfl⟩ : ∃ n : Nat, k = n := ⟨k.toNat, by omega⟩
  have hn1 : 1 ≤ n := by omega
  have hn : n ≤ 40 := by omega
  have hsq := M.sq_le hn
  obtain ⟨s, hs⟩ : ∃ s, s = n * n := ⟨_, rfl⟩
  have hss : (n : Int) * (n : Int) = (s : Int) := by rw [hs]; simp
  rw [← hs] at hsq
  by_cases hlen : xs.length = s
  case neg =>
    rw [M.noLen (by simpa [← hs] using hlen)]
    have hlen' : ((xs.length : Int) != (s : Int)) = true := by rw [bne_iff_ne]; omega
    clear hA hk hs hlen
    go_enter Try.func83, Try.ntmps83
    go_wp2_with fail
    refine (h1.out _).mono ?_
    rintro e w1 ⟨rfl, rfl⟩
    go_wp2_with fail
    go_ret
    exact ⟨rfl, (Below.refl _ _).alloc (Nat.le_refl _) _⟩
  case pos =>
  have hlen' : ((xs.length : Int) != (s : Int)) = false := by rw [hlen]; simp
  have HA := Lib.hid (show Rd w 1 A s (ints xs) from hlen ▸ hA)
  have HLN := Lib.hid hlen
  have HL := Lib.hid (hlen.trans hs)
  have hln : (n : Int) - 1 + 1 = n := by omega
  clear hA hk hs hl
  rw [hlen]
  clear hlen
  go_enter Try.func83, Try.ntmps83
  go_wp2_with fail
  refine (h1.out _).mono ?_
  rintro e w1 ⟨rfl, rfl⟩
  go_wp2_with fail
  go_loopw [26] (fun z wr => ∃ i : Nat, i ≤ s ∧ z = .int .i64 i ∧ M.InP n (xs.take i) ∧ wr.cell? ⟨w.heap.size, 0, none⟩ = some (.int .i64 n) ∧ wr.cell? ⟨w.heap.size, 1, none⟩ = some (.slice A s c) ∧ Below w.heap.size w wr) (fun z _ => s - (intOf z).toNat)
  case atStart => exact ⟨0, by omega, rfl, by intro x hx; simp at hx, by simp [go_sem], by simp [go_sem], (Below.refl _ _).alloc (Nat.le_refl _) _⟩
  case round =>
    obtain ⟨i, hi, rfl, hin, c0, c1, hb⟩ := hrel
    have HIN := Lib.hid hin
    have HB := Lib.hid hb
    clear hin hb
    by_cases hlt : i < s
    case pos =>
      obtain ⟨b, o, rfl, hz, hc⟩ := (HA.out.below HB.out).intAt (k := i) (by omega)
      have h2 := Lib.hid (fun W => l01In_c xs[i] 0 ((n : Int) - 1) W)
      by_cases hx : 0 ≤ xs[i] ∧ xs[i] ≤ (n : Int) - 1
      case pos =>
        have HN := Lib.hid (inP_drop hz HIN.out hx)
        have hw : M.within xs[i] 0 ((n : Int) - 1) = true := by unfold M.within; simp; omega
        rw [hw] at h2
        generalize xs[i] = x at *
        clear hw hx
        go_wp2_with fail
        refine (h2.out _).mono ?_
        rintro e w1 ⟨rfl, rfl⟩
        go_wp2_with fail
        go_roundw
        case rel => exact ⟨i + 1, by omega, by go_num, HN.out, c0, c1, HB.out⟩
        case measure => simp [intOf]; omega
      case neg =>
        have HNO := Lib.hid (M.noIn (n := n) (xs := xs) (fun h => hx (h _ (List.getElem_mem hz))))
        have hw : M.within xs[i] 0 ((n : Int) - 1) = false := by unfold M.within; simp; omega
        rw [hw] at h2
        generalize xs[i] = x at *
        clear hw hx
        go_wp2_with fail
        refine (h2.out _).mono ?_
        rintro e w1 ⟨rfl, rfl⟩
        go_wp2_with fail
        go_ret
        exact ⟨ret_bool HNO.out.symm, HB.out⟩
    case neg =>
    have hin : M.InP n xs := by have h1 := HIN.out; rwa [List.take_of_length_le (by have := HLN.out; omega)] at h1
    have HOK := Lib.hid (fun (h : ∀ i, i < n → M.RowP n xs i) => M.rowsOk ⟨hn1, hn⟩ HL.out hin h)
    have HI := Lib.hid (fun a (ha : a < s) => M.tAt_in (n := n) (xs := xs) hin (i := a) (by have := HLN.out; omega))
    have HQ := Lib.hid (fun (W : World) (h : Rd W 1 A s (ints xs)) a (ha : a < s) => tAt_cell (w := W) (A := A) (xs := xs) (by rw [HLN.out]; exact h) (a := a) (by have := HLN.out; omega))
    have HX := Lib.hid (fun (i j : Nat) (h : i < n) (h' : j < n) => show i * n + j < s by have h1 := M.idx_lt h h'; have h2 := HL.out; have h3 := HLN.out; omega)
    clear hin HIN
    go_wp2
    go_loopw [6] (fun z wr => ∃ i : Nat, i ≤ n ∧ z = .int .i64 i ∧ (∀ i', i' < i → M.RowP n xs i') ∧ wr.cell? ⟨w.heap.size, 0, none⟩ = some (.int .i64 n) ∧ wr.cell? ⟨w.heap.size, 1, none⟩ = some (.slice A s c) ∧ Below w.heap.size w wr) (fun z _ => n - (intOf z).toNat)
    case atStart => exact ⟨0, by omega, rfl, fun i' h => absurd h (by omega), c0, c1, HB.out⟩
    case round =>
      clear c0 c1 HB hi hlt
      obtain ⟨i, hi, rfl, hrow, c0, c1, hb⟩ := hrel
      have HROW := Lib.hid hrow
      have HB := Lib.hid hb
      clear hrow hb
      by_cases hlt : i < n
      case neg =>
        go_wp2
        go_ret
        exact ⟨ret_bool (HOK.out (fun j hj => HROW.out j (by omega))).symm, HB.out⟩
      case pos =>
      have hnn : n ≤ s := by have h1 := HX.out 0 (n - 1) (by omega) (by omega); omega
      obtain ⟨p, hp⟩ : ∃ p, p = i * n := ⟨_, rfl⟩
      have hpp : (i : Int) * (n : Int) = (p : Int) := by rw [hp]; simp
      have hps : p + n ≤ s := by have h1 := HX.out i (n - 1) hlt (by omega); omega
      have his : i < s := by omega
      have hps' : p < s := by omega
      obtain ⟨b, o, rfl, hci⟩ := HQ.out wr (HA.out.below HB.out) i his
      obtain ⟨b', o', he, hcp⟩ := HQ.out wr (HA.out.below HB.out) p hps'
      simp only [Option.some.injEq, Addr.mk.injEq, and_true] at he
      obtain ⟨rfl, rfl⟩ := he
      have HU := Lib.hid (fun h => M.noUnit (n := n) (xs := xs) (i := i) hlt h)
      have HP := Lib.hid hp
      by_cases hu1 : M.tAt xs i = i
      case neg =>
        have HNO := Lib.hid (HU.out (fun h => hu1 h.1))
        have hu1' : (M.tAt xs i != (i : Int)) = true := by rw [bne_iff_ne]; exact hu1
        generalize M.tAt xs i = u1 at *
        generalize M.tAt xs p = u2 at *
        clear hu1 hp
        go_wp2
        go_ret
        exact ⟨ret_bool HNO.out.symm, HB.out⟩
      case pos =>
      by_cases hu2 : M.tAt xs p = i
      case neg =>
        have HNO := Lib.hid (HU.out (fun h => hu2 (by rw [hp]; exact h.2)))
        have hu2' : (M.tAt xs p != (i : Int)) = true := by rw [bne_iff_ne]; exact hu2
        rw [hu1] at hci
        generalize M.tAt xs p = u2 at *
        clear hu1 hu2 hp
        go_wp2
        go_ret
        exact ⟨ret_bool HNO.out.symm, HB.out⟩
      case pos =>
        have HUP := Lib.hid (show M.UnitP n xs i from ⟨hu1, by rw [← hp]; exact hu2⟩)
        rw [hu1] at hci
        rw [hu2] at hcp
        clear hu1 hu2 hp
        go_wp2
        go_loopw [7] (fun z wr => ∃ j : Nat, j ≤ n ∧ z = .int .i64 j ∧ (∀ j', j' < j → ∀ l, l < n → M.AssocP n xs i j' l) ∧ wr.cell? ⟨w.heap.size, 0, none⟩ = some (.int .i64 n) ∧ wr.cell? ⟨w.heap.size, 1, none⟩ = some (.slice (some ⟨b, o, none⟩) s c) ∧ Below w.heap.size w wr) (fun z _ => n - (intOf z).toNat)
        case atStart => exact ⟨0, by omega, rfl, fun i' h => absurd h (by omega), c0, c1, HB.out⟩
        case round =>
          clear c0 c1 HB hci hcp
          obtain ⟨j, hj, rfl, hcol, c0, c1, hb⟩ := hrel
          have HCOL := Lib.hid hcol
          have HB := Lib.hid hb
          clear hcol hb
          by_cases hltj : j < n
          case neg =>
            go_wp2
            go_roundw
            case rel => exact ⟨i + 1, by omega, by go_num, fun i' h => by
              by_cases he : i' = i
              · subst he; exact ⟨HUP.out, fun j' hj' => HCOL.out j' (by omega)⟩
              · exact HROW.out i' (by omega), c0, c1, HB.out⟩
            case measure => simp [intOf]; omega
          case pos =>
          go_wp2
          go_loopw [8] (fun z wr => ∃ l : Nat, l ≤ n ∧ z = .int .i64 l ∧ (∀ l', l' < l → M.AssocP n xs i j l') ∧ wr.cell? ⟨w.heap.size, 0, none⟩ = some (.int .i64 n) ∧ wr.cell? ⟨w.heap.size, 1, none⟩ = some (.slice (some ⟨b, o, none⟩) s c) ∧ Below w.heap.size w wr) (fun z _ => n - (intOf z).toNat)
          case atStart => exact ⟨0, by omega, rfl, fun i' h => absurd h (by omega), c0, c1, HB.out⟩
          case round =>
            clear c0 c1 HB
            obtain ⟨l, hl, rfl, hlast, c0, c1, hb⟩ := hrel
            have HLAST := Lib.hid hlast
            have HB := Lib.hid hb
            clear hlast hb
            by_cases hltl : l < n
            case neg =>
              go_wp2
              go_roundw
              case rel => exact ⟨j + 1, by omega, by go_num, fun j' h l' hl' => by
                by_cases he : j' = j
                · subst he; exact HLAST.out l' (by omega)
                · exact HCOL.out j' (by omega) l' hl', c0, c1, HB.out⟩
              case measure => simp [intOf]; omega
            case pos =>
            obtain ⟨a1, ha1⟩ : ∃ a, a = p + j := ⟨_, rfl⟩
            have ha1' : (p : Int) + (j : Int) = (a1 : Int) := by rw [ha1]; simp
            have ha1s : a1 < s := by have h1 := HX.out i j hlt hltj; have h2 := HP.out; omega
            obtain ⟨m1, hm1, hm1n⟩ := HI.out a1 ha1s
            obtain ⟨q, hq⟩ : ∃ q, q = m1 * n := ⟨_, rfl⟩
            have hqq : (m1 : Int) * (n : Int) = (q : Int) := by rw [hq]; simp
            obtain ⟨a2, ha2⟩ : ∃ a, a = q + l := ⟨_, rfl⟩
            have ha2' : (q : Int) + (l : Int) = (a2 : Int) := by rw [ha2]; simp
            have ha2s : a2 < s := by have h1 := HX.out m1 l hm1n hltl; omega
            obtain ⟨r, hr⟩ : ∃ r, r = j * n := ⟨_, rfl⟩
            have hrr : (j : Int) * (n : Int) = (r : Int) := by rw [hr]; simp
            obtain ⟨a3, ha3⟩ : ∃ a, a = r + l := ⟨_, rfl⟩
            have ha3' : (r : Int) + (l : Int) = (a3 : Int) := by rw [ha3]; simp
            have ha3s : a3 < s := by have h1 := HX.out j l hltj hltl; omega
            obtain ⟨m2, hm2, hm2n⟩ := HI.out a3 ha3s
            obtain ⟨a4, ha4⟩ : ∃ a, a = p + m2 := ⟨_, rfl⟩
            have ha4' : (p : Int) + (m2 : Int) = (a4 : Int) := by rw [ha4]; simp
            have ha4s : a4 < s := by have h1 := HX.out i m2 hlt hm2n; have h2 := HP.out; omega
            have HAS := Lib.hid (show M.AssocP n xs i j l ↔ M.tAt xs a2 = M.tAt xs a4 by
              have e1 : M.tI n xs i j = (m1 : Int) := by unfold M.tI; simp only [Int.toNat_natCast]; rw [← HP.out, ← ha1]; exact hm1
              have e2 : M.tI n xs j l = (m2 : Int) := by unfold M.tI; simp only [Int.toNat_natCast]; rw [← hr, ← ha3]; exact hm2
              unfold M.AssocP
              rw [e1, e2]
              unfold M.tI
              simp only [Int.toNat_natCast]
              rw [← hq, ← ha2, ← HP.out, ← ha4])
            have hcell : ∀ a, a < s → wr.cell? ⟨b, o + a, none⟩ = some (.int .i64 (M.tAt xs a)) := fun a ha => by
              obtain ⟨b', o', he, hcp⟩ := HQ.out wr (HA.out.below HB.out) a ha
              simp only [Option.some.injEq, Addr.mk.injEq, and_true] at he
              obtain ⟨rfl, rfl⟩ := he
              exact hcp
            have g1 := hcell a1 ha1s
            have g2 := hcell a2 ha2s
            have g3 := hcell a3 ha3s
            have g4 := hcell a4 ha4s
            rw [hm1] at g1
            rw [hm2] at g3
            have hqs : q ≤ 1600 := by omega
            have hrs : r ≤ 1600 := by omega
            clear hcell hm1 hm2 ha1 ha2 ha3 ha4 hq hr
            have HNA := Lib.hid (fun h => M.noAssoc (n := n) (xs := xs) hlt hltj hltl h)
            generalize M.tAt xs a2 = z2 at *
            generalize M.tAt xs a4 = z4 at *
            by_cases has : z2 = z4
            case neg =>
              have has' : (z2 != z4) = true := by rw [bne_iff_ne]; exact has
              have HNO := Lib.hid (HNA.out (fun h => has (HAS.out.1 h)))
              clear has
              go_wp2_with fail
              go_quiet (fail)
              go_wp2
              go_ret
              exact ⟨ret_bool HNO.out.symm, below_drewN HB.out _⟩
            case pos =>
              have HAA := Lib.hid (HAS.out.2 has)
              clear HAS HNA
              subst has
              go_wp2_with fail
              go_quiet (fail)
              go_wp2
              go_roundw
              case rel => exact ⟨l + 1, by omega, by go_num, fun l' h => by
                by_cases he : l' = l
                · subst he; exact HAA.out
                · exact HLAST.out l' (by omega), c0, c1, below_drewN HB.out _⟩
              case measure => simp [intOf]; omega

end Go.Proofs.Ytlohpphmamapeaa
