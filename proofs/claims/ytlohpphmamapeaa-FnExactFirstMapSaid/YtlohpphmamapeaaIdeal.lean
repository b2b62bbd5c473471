/-
  The contract of ideal.
  Conditions: a valid table, an element of it, one of the three kinds.
-/
import Derived.Test.YtlohpphmamapeaaColl
import Derived.Test.YtlohpphmamapeaaTabOk
import Derived.Test.YtlohpphmamapeaaTimes
import Derived.Test.YtlohpphmamapeaaPairsI
import Derived.Deep.RegionHeld3
namespace Go.Proofs.Ytlohpphmamapeaa
open Go.RowKit
set_option linter.unusedVariables false
set_option linter.unusedSimpArgs false

theorem ints_snoc (a : List Int) (z : Int) : ints (a ++ [z]) = ints a ++ [.int .i64 z] := by simp [ints]
theorem row1 (n : Nat) (xs : List Int) (i : Int) (x : Nat) : M.rawTo n xs 1 i (x + 1) = M.rawTo n xs 1 i x ++ [M.tI n xs i x] := rfl
theorem row2 (n : Nat) (xs : List Int) (i : Int) (x : Nat) : M.rawTo n xs 2 i (x + 1) = M.rawTo n xs 2 i x ++ [M.tI n xs x i] := rfl
def M.row3To (n : Nat) (xs : List Int) (a : Int) (y : Nat) : List Int := (List.range y).map fun (y : Nat) => M.tI n xs a (y : Int)
theorem row3 (n : Nat) (xs : List Int) (i : Int) (x : Nat) : M.rawTo n xs 3 i (x + 1) = M.rawTo n xs 3 i x ++ M.row3To n xs (M.tI n xs x i) n := rfl
theorem row3_succ (n : Nat) (xs : List Int) (a : Int) (y : Nat) : M.row3To n xs a (y + 1) = M.row3To n xs a y ++ [M.tI n xs a y] := by simp [M.row3To, List.range_succ]
theorem row3_len (n : Nat) (xs : List Int) (a : Int) (y : Nat) : (M.row3To n xs a y).length = y := by simp [M.row3To]

theorem heldB {w w1 : World} {b1 o1 b2 o2 : Nat} {u1 u2 : Value} (h : w.cell? ⟨b1, o1, none⟩ = some u1 ∧ w.cell? ⟨b2, o2, none⟩ = some u2) (hb : Below w.heap.size w w1) : w1.cell? ⟨b1, o1, none⟩ = some u1 ∧ w1.cell? ⟨b2, o2, none⟩ = some u2 := ⟨cellKeep hb h.1, cellKeep hb h.2⟩
set_option maxRecDepth 100000 in
set_option maxHeartbeats 4000000 in
theorem ideal_c (n : Nat) (A : Option Addr) (c : Nat) (xs : List Int) (i kind : Int) (w : World) (hA : Rd w 1 A xs.length (ints xs)) (hn1 : 1 ≤ n) (hn : n ≤ 40) (hl : xs.length = n * n) (hP : M.InP n xs) (hi : 0 ≤ i ∧ i < n) (hk : kind = 1 ∨ kind = 2 ∨ kind = 3) :
    Calls Try.prog 86 #[.agg #[.int .i64 n, .slice A xs.length c], .int .i64 i, .int .i64 kind] w (RetRd (fun A c => .slice A (M.ideal n xs kind i).length c) 1 (M.ideal n xs kind i).length (ints (M.ideal n xs kind i)) w) := by
  have HA := Lib.hid hA
  have HID := Lib.hid (ideal_collect hP hl (kind := kind) hi)
  have HTI := Lib.hid (fun x y hx hy => M.tI_in hP hl (x := x) (y := y) hx hy)
  have HT := Lib.hid (fun x y W h hx hy => times_c n A c xs x y W h hn hl hx hy)
  have HRL := Lib.hid (fun x => raw_len n xs kind i x)
  have HRP := Lib.hid (raw_pos hn1 xs kind i n hn1)
  have HLX := Lib.hid (show xs.length ≤ 1600 by have := M.sq_le hn; omega)
  clear hA hP hl
  generalize xs.length = xl at *
  go_enter Try.func86, Try.ntmps86
  go_wp2_with fail
  obtain ⟨w0, hw0⟩ : ∃ w0 : World, w0 = w.alloc (.cells #[.int .i64 n, .slice A xl c] 40) := ⟨_, rfl⟩
  obtain ⟨g, hg⟩ : ∃ g, g = w.heap.size := ⟨_, rfl⟩
  have C0 := Lib.hid (show w0.cell? ⟨g, 0, none⟩ = some (.int .i64 n) by rw [hw0, hg]; simp [go_sem])
  have C1 := Lib.hid (show w0.cell? ⟨g, 1, none⟩ = some (.slice A xl c) by rw [hw0, hg]; simp [go_sem])
  have T0 := Lib.hid (show Below w.heap.size w w0 by rw [hw0]; exact (Below.refl _ _).alloc (Nat.le_refl _) _)
  rw [← hw0, ← hg]
  clear hw0 hg
  go_loopw [7, 12] (fun s z wr => ∃ (x : Nat) (A' : Option Addr) (c' m : Nat), x ≤ n ∧ z = .int .i64 x ∧ s = .slice A' m c' ∧ m = (M.rawTo n xs kind i x).length ∧ wr.ownsRow w0.heap.size 3 1 (.slice A' m c') m (ints (M.rawTo n xs kind i x)) ∧ Below w0.heap.size w0 wr) (fun _ z _ => n - (intOf z).toNat)
  case atStart => exact ⟨0, none, 0, 0, by omega, rfl, rfl, rfl, World.ownsRow_nil _ _ _ _, Below.refl _ _⟩
  case round =>
    obtain ⟨x, A', c', m, hx, rfl, rfl, hm, hown, hb⟩ := hrel
    have HM := Lib.hid hm
    have HO := Lib.hid hown
    have HB := Lib.hid hb
    have hml : m ≤ 1640 := by
      have h1 := HRL.out x
      have h2 : x * (n + 1) ≤ 40 * 41 := Nat.mul_le_mul (by omega) (by omega)
      omega
    clear hm hown hb
    have c0 := cellKeep HB.out C0.out
    have c1 := cellKeep HB.out C1.out
    have RA := Lib.hid (HA.out.below (T0.out.trans (HB.out.mono T0.out.size)))
    by_cases hlt : x < n
    case neg =>
      obtain rfl : x = n := by omega
      have HC := Lib.hid (fun W h => collected_c A' c' (M.rawTo x xs kind i x) W h HRP.out (by have := HM.out; omega))
      rw [← HM.out, HID.out] at HC
      clear c0 c1
      go_wp2_with fail
      refine (HC.out _ (Rd.of_own HO.out)).mono ?_
      rintro e w2 ⟨A2, c2, rfl, ho, hb⟩
      have HO2 := Lib.hid ho
      have HB2 := Lib.hid (T0.out.trans ((HB.out.trans (hb.mono HB.out.size)).mono T0.out.size))
      have hsz := T0.out.size
      have hsz2 := HB.out.size
      clear ho hb
      go_wp2_with fail
      go_ret
      exact ⟨A2, c2, rfl, HO2.out.mono (by omega), HB2.out⟩
    case pos =>
    have hx0 : 0 ≤ (x : Int) ∧ (x : Int) < n := by omega
    rcases hk with rfl | rfl | rfl

    · have HS := Lib.hid (row1 n xs i x)
      have HT1 := Lib.hid (fun W h => HT.out i (x : Int) W h hi hx0)
      generalize M.tI n xs i (x : Int) = z at *
      go_wp2_with fail
      refine (HT1.out _ (RA.out)).mono ?_
      rintro e w2 ⟨rfl, hb⟩
      have HO2 := Lib.hid (own_below HO.out hb)
      have HB2 := Lib.hid (HB.out.trans (hb.mono HB.out.size))
      clear hb c0 c1
      go_wp2_with (at_builtin; refine push_law rfl _ _ rfl slInt rfl HO2.out (us := [.int .i64 z]) rfl rfl (by simp [Value.oneCell']) HB2.out rfl (by omega) ?_; intro A5 c5 w5 hown5 hb5)
      go_roundw
      case rel => exact ⟨x + 1, A5, c5, m + 1, by omega, by go_num, rfl, by rw [HS.out, List.length_append, HM.out]; rfl, by rw [HS.out, ints_snoc]; exact hown5, hb5⟩
      case measure => simp [intOf] <;> omega
    · have HS := Lib.hid (row2 n xs i x)
      have HT1 := Lib.hid (fun W h => HT.out (x : Int) i W h hx0 hi)
      generalize M.tI n xs (x : Int) i = z at *
      go_wp2_with fail
      refine (HT1.out _ (RA.out)).mono ?_
      rintro e w2 ⟨rfl, hb⟩
      have HO2 := Lib.hid (own_below HO.out hb)
      have HB2 := Lib.hid (HB.out.trans (hb.mono HB.out.size))
      clear hb c0 c1
      go_wp2_with (at_builtin; refine push_law rfl _ _ rfl slInt rfl HO2.out (us := [.int .i64 z]) rfl rfl (by simp [Value.oneCell']) HB2.out rfl (by omega) ?_; intro A5 c5 w5 hown5 hb5)
      go_roundw
      case rel => exact ⟨x + 1, A5, c5, m + 1, by omega, by go_num, rfl, by rw [HS.out, List.length_append, HM.out]; rfl, by rw [HS.out, ints_snoc]; exact hown5, hb5⟩
      case measure => simp [intOf] <;> omega
    · have HS := Lib.hid (row3 n xs i x)
      have hai := HTI.out x i hx0 hi
      have HR0 := Lib.hid (show M.row3To n xs (M.tI n xs x i) 0 = [] from rfl)
      go_wp2_with fail
      clear c0 c1 RA
      go_loopw [7, 18] (fun s z wr => ∃ (y : Nat) (A' : Option Addr) (c' q : Nat), y ≤ n ∧ z = .int .i64 y ∧ s = .slice A' q c' ∧ q = m + y ∧ wr.ownsRow w0.heap.size 3 1 (.slice A' q c') q (ints (M.rawTo n xs 3 i x ++ M.row3To n xs (M.tI n xs x i) y)) ∧ Below w0.heap.size w0 wr) (fun _ z _ => n - (intOf z).toNat)
      case atStart => exact ⟨0, A', c', m, by omega, rfl, rfl, rfl, by rw [HR0.out, List.append_nil]; exact HO.out, HB.out⟩
      case round =>
        obtain ⟨y, A3, c3, q, hy, rfl, rfl, rfl, hown3, hb3⟩ := hrel
        have HO3 := Lib.hid hown3
        have HB3 := Lib.hid hb3
        clear hown3 hb3
        have d0 := cellKeep HB3.out C0.out
        have d1 := cellKeep HB3.out C1.out
        have RA3 := Lib.hid (HA.out.below (T0.out.trans (HB3.out.mono T0.out.size)))
        by_cases hyt : y < n
        case pos =>
          have hy0 : 0 ≤ (y : Int) ∧ (y : Int) < n := by omega
          have HS3 := Lib.hid (row3_succ n xs (M.tI n xs x i) y)
          go_wp2_with fail
          obtain ⟨wz, hwz⟩ : ∃ wz : World, wz = wr := ⟨_, rfl⟩
          rw [← hwz] at d0 d1 RA3 HO3 HB3 ⊢
          clear hwz
          go_region_held3 (fun w' => w'.cell? ⟨g, 0, none⟩ = some (.int .i64 n) ∧ w'.cell? ⟨g, 1, none⟩ = some (.slice A xl c)) (first | exact ⟨d0, d1⟩ | assumption | exact heldB (by assumption) hb4 | exact heldB (by assumption) ((Below.refl _ _).alloc (Nat.le_refl _) _) | exact ⟨cellKeep hb7 C0.out, cellKeep hb7 C1.out⟩) (first | (refine step_push rfl _ _ rfl slInt rfl (own_below HO3.out (Bz.alloc Bz.size _)) (us := [.int .i64 (M.tI n xs (M.tI n xs x i) y)]) rfl rfl (by simp [Value.oneCell']) (heap_alloc_new _ _) (HB3.out.trans ((Bz.alloc Bz.size _).mono HB3.out.size)) rfl (by omega) ?_; intro A7 c7 w7 hown7 hb7 hg7) | (go_simp; go_at_call 129; refine (HT.out _ _ _ (by first | exact RA3.out.below (Below.refl _ _).drew | exact RA3.out.below Bz) (by first | exact hx0 | exact hai) (by first | exact hi | exact hy0)).mono ?_; rintro e w4 ⟨rfl, hb4⟩; (first | have Bz := below_then (a := wz) (Below.refl _ _).drew hb4 | have Bz := below_then Bz hb4)))
          all_goals
            go_wp2_with fail
            go_roundw
            case rel => exact ⟨y + 1, A7, c7, _, by omega, by go_num, rfl, by omega, by rw [HS3.out, ← List.append_assoc, ints_snoc]; exact hown7, hb7⟩
            case measure => simp [intOf] <;> omega
        case neg =>
          obtain rfl : y = n := by omega
          go_wp2_with fail
          go_roundw
          case rel => exact ⟨x + 1, A3, c3, _, by omega, by go_num, rfl, by rw [HS.out, List.length_append, row3_len, HM.out], by rw [HS.out]; exact HO3.out, HB3.out⟩
          case measure => simp [intOf] <;> omega
end Go.Proofs.Ytlohpphmamapeaa
