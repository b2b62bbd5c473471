/-
  Contracts of the product of two elements, and of allWithin.
  Conditions: tables of at most 40 elements.
-/
import Derived.Test.YtlohpphmamapeaaTab
import Derived.Test.YtlohpphmamapeaaModTab
import Derived.Test.YtlohpphmamapeaaWordC
namespace Go.Proofs.Ytlohpphmamapeaa
open Go.RowKit
set_option linter.unusedVariables false

theorem tAt_cell {w : World} {A : Option Addr} {xs : List Int} (h : Rd w 1 A xs.length (ints xs)) {a : Nat} (ha : a < xs.length) : ∃ b o, A = some ⟨b, o, none⟩ ∧ w.cell? ⟨b, o + a, none⟩ = some (.int .i64 (M.tAt xs a)) := by
  obtain ⟨b, o, e, hz, hc⟩ := h.intAt (k := a) ha
  exact ⟨b, o, e, by rw [M.tAt_eq hz]; exact hc⟩
set_option maxRecDepth 100000 in
set_option maxHeartbeats 1000000 in
theorem times_c (n : Nat) (A : Option Addr) (c : Nat) (xs : List Int) (x y : Int) (w : World) (hA : Rd w 1 A xs.length (ints xs)) (hn : n ≤ 40) (hl : xs.length = n * n) (hx : 0 ≤ x ∧ x < n) (hy : 0 ≤ y ∧ y < n) :
    Calls Try.prog 129 #[.agg #[.int .i64 n, .slice A xs.length c], .int .i64 x, .int .i64 y] w fun e w' => e = .returned (.int .i64 (M.tI n xs x y)) ∧ Below w.heap.size w w' := by
  obtain ⟨i, rfl⟩ : ∃ i : Nat, x = i := ⟨x.toNat, by omega⟩
  obtain ⟨j, rfl⟩ : ∃ j : Nat, y = j := ⟨y.toNat, by omega⟩
  unfold M.tI
  simp only [Int.toNat_natCast]
  have hlt := M.idx_lt (n := n) (i := i) (j := j) (by omega) (by omega)
  have hsq := M.sq_le hn
  have hxl : xs.length ≤ 1600 := by omega
  obtain ⟨p, hp⟩ : ∃ p, p = i * n := ⟨_, rfl⟩
  have hpp : (i : Int) * (n : Int) = (p : Int) := by rw [hp]; simp
  rw [← hp] at hlt ⊢
  obtain ⟨a, ha⟩ : ∃ a, a = p + j := ⟨_, rfl⟩
  have haa : (p : Int) + (j : Int) = (a : Int) := by rw [ha]; simp
  rw [← ha] at hlt ⊢
  have hap : p ≤ a := by omega
  have hal : a < xs.length := by omega
  obtain ⟨b, o, rfl, hc⟩ := tAt_cell hA hal
  have hc' := fun x => allocKeep1 hc x
  generalize M.tAt xs a = z at *
  generalize xs.length = m at *
  have hab : a ≤ 1600 := by omega
  have hpb : p ≤ 1600 := by omega
  clear hp ha hA hl hlt hsq
  go_enter Try.func129, Try.ntmps129
  go_wp2_with fail
  go_ret
  exact ⟨rfl, (Below.refl _ _).alloc (Nat.le_refl _) _⟩
set_option maxRecDepth 100000 in
set_option maxHeartbeats 1000000 in
theorem l08Times_c (n : Nat) (A : Option Addr) (c : Nat) (xs : List Int) (x y : Int) (w : World) (hA : Rd w 1 A xs.length (ints xs)) (hn : n ≤ 40) (hl : xs.length = n * n) (hx : 0 ≤ x ∧ x < n) (hy : 0 ≤ y ∧ y < n) :
    Calls Try.prog 126 #[.agg #[.int .i64 n, .slice A xs.length c], .int .i64 x, .int .i64 y] w fun e w' => e = .returned (.int .i64 (M.tI n xs x y)) ∧ Below w.heap.size w w' := by
  obtain ⟨i, rfl⟩ : ∃ i : Nat, x = i := ⟨x.toNat, by omega⟩
  obtain ⟨j, rfl⟩ : ∃ j : Nat, y = j := ⟨y.toNat, by omega⟩
  unfold M.tI
  simp only [Int.toNat_natCast]
  have hlt := M.idx_lt (n := n) (i := i) (j := j) (by omega) (by omega)
  have hsq := M.sq_le hn
  have hxl : xs.length ≤ 1600 := by omega
  obtain ⟨p, hp⟩ : ∃ p, p = i * n := ⟨_, rfl⟩
  have hpp : (i : Int) * (n : Int) = (p : Int) := by rw [hp]; simp
  rw [← hp] at hlt ⊢
  obtain ⟨a, ha⟩ : ∃ a, a = p + j := ⟨_, rfl⟩
  have haa : (p : Int) + (j : Int) = (a : Int) := by rw [ha]; simp
  rw [← ha] at hlt ⊢
  have hap : p ≤ a := by omega
  have hal : a < xs.length := by omega
  obtain ⟨b, o, rfl, hc⟩ := tAt_cell hA hal
  have hc' := fun x => allocKeep1 hc x
  generalize M.tAt xs a = z at *
  generalize xs.length = m at *
  have hab : a ≤ 1600 := by omega
  have hpb : p ≤ 1600 := by omega
  clear hp ha hA hl hlt hsq
  go_enter Try.func126, Try.ntmps126
  go_wp2_with fail
  go_ret
  exact ⟨rfl, (Below.refl _ _).alloc (Nat.le_refl _) _⟩
set_option maxRecDepth 100000 in
set_option maxHeartbeats 1000000 in
theorem allWithin1_c (lo hi x : Int) (b1 b2 : Nat) (w : World) (h1 : w.cell? ⟨b1, 0, none⟩ = some (.int .i64 lo)) (h2 : w.cell? ⟨b2, 0, none⟩ = some (.int .i64 hi)) : Calls Try.prog 167 #[.int .i64 x, .pointer (some ⟨b1, 0, none⟩), .pointer (some ⟨b2, 0, none⟩)] w fun e w' => e = .returned (.bool (M.outOf lo hi x)) ∧ w = w' := by
  unfold M.outOf
  have h3 := Lib.hid (fun W => within_c x lo hi W)
  generalize M.within x lo hi = v at *
  go_enter Try.func167, Try.ntmps167
  go_wp2_with fail
  refine (h3.out _).mono ?_
  rintro e w1 ⟨rfl, rfl⟩
  go_wp2_with fail
  go_ret
  exact ⟨rfl, rfl⟩
set_option maxRecDepth 100000 in
set_option maxHeartbeats 1000000 in
theorem IndexFuncInt_c (lo hi : Int) (b1 b2 : Nat) (A : Option Addr) (c : Nat) (rs : List Int) (w : World) (h1 : w.cell? ⟨b1, 0, none⟩ = some (.int .i64 lo)) (h2 : w.cell? ⟨b2, 0, none⟩ = some (.int .i64 hi)) (hA : Rd w 1 A rs.length (ints rs)) (hl : rs.length ≤ 1048576) :
    Calls Try.prog 141 #[.slice A rs.length c, .func (.func 167) #[] #[.pointer (some ⟨b1, 0, none⟩), .pointer (some ⟨b2, 0, none⟩)]] w fun e w' => (∃ z : Int, e = .returned (.int .i64 z) ∧ decide (0 ≤ z) = rs.any (M.outOf lo hi)) ∧ w = w' := by
  have HA := Lib.hid hA
  have H1 := Lib.hid h1
  have H2 := Lib.hid h2
  obtain ⟨q, hq⟩ : ∃ q, q = rs.any (M.outOf lo hi) := ⟨_, rfl⟩
  rw [← hq]
  have HQ := Lib.hid hq
  obtain ⟨m, hm⟩ : ∃ m, m = rs.length := ⟨_, rfl⟩
  have hmb : m ≤ 1048576 := by omega
  rw [← hm]
  have HM := Lib.hid hm
  clear hA hq hm hl h1 h2
  go_enter Try.func141, Try.ntmps141
  go_wp2
  go_loop [8] (fun i => ∃ (k : Nat), k ≤ m ∧ i = .int .i64 k ∧ (rs.drop k).any (M.outOf lo hi) = q) (fun i => m - (intOf i).toNat)
  case atStart => exact ⟨0, by omega, rfl, by rw [List.drop_zero, HQ.out]⟩
  case round =>
    obtain ⟨k, hk, rfl, hf⟩ := hrel
    have HF := Lib.hid hf
    clear hf
    by_cases hlt : k < m
    · obtain ⟨b, o, rfl, hz, hc⟩ := HA.out.intAt (k := k) (by have := HM.out; omega)
      have hd : (rs.drop k).any (M.outOf lo hi) = (M.outOf lo hi rs[k] || (rs.drop (k + 1)).any (M.outOf lo hi)) := by rw [List.drop_eq_getElem_cons hz, List.any_cons]
      have HC := Lib.hid (allWithin1_c lo hi rs[k] b1 b2 w H1.out H2.out)
      have HF2 := Lib.hid (hd.symm.trans HF.out)
      clear hd
      generalize rs[k] = r at *
      generalize M.outOf lo hi r = v at *
      cases v
      case true =>
        go_wp2_with fail
        refine HC.out.mono ?_
        rintro e w1 ⟨rfl, rfl⟩
        go_wp2_with fail
        go_ret
        exact ⟨⟨k, rfl, by have := HF2.out; rw [← this]; simp⟩, rfl⟩
      case false =>
        go_wp2_with fail
        refine HC.out.mono ?_
        rintro e w1 ⟨rfl, rfl⟩
        go_wp2_with fail
        go_round
        case rel => exact ⟨k + 1, by omega, by go_num, by have := HF2.out; rw [← this]; simp⟩
        case measure => simp [intOf]; omega
    · have e : q = false := by have := HF.out; rw [List.drop_eq_nil_of_le (by have := HM.out; omega)] at this; exact this.symm
      go_wp2
      go_ret
      exact ⟨⟨-1, rfl, by first | (rw [e]; rfl) | decide⟩, rfl⟩
set_option maxRecDepth 100000 in
set_option maxHeartbeats 1000000 in
theorem ContainsFuncInt_c (lo hi : Int) (b1 b2 : Nat) (A : Option Addr) (c : Nat) (rs : List Int) (w : World) (h1 : w.cell? ⟨b1, 0, none⟩ = some (.int .i64 lo)) (h2 : w.cell? ⟨b2, 0, none⟩ = some (.int .i64 hi)) (hA : Rd w 1 A rs.length (ints rs)) (hl : rs.length ≤ 1048576) :
    Calls Try.prog 166 #[.slice A rs.length c, .func (.func 167) #[] #[.pointer (some ⟨b1, 0, none⟩), .pointer (some ⟨b2, 0, none⟩)]] w fun e w' => e = .returned (.bool (rs.any (M.outOf lo hi))) ∧ w = w' := by
  have h := Lib.hid (IndexFuncInt_c lo hi b1 b2 A c rs w h1 h2 hA hl)
  clear hA h1 h2
  generalize rs.any (M.outOf lo hi) = q at *
  go_enter Try.func166, Try.ntmps166
  go_wp2_with fail
  refine h.out.mono ?_
  rintro e w1 ⟨⟨z, rfl, hz⟩, rfl⟩
  go_wp2_with fail
  go_ret
  exact ⟨rfl, rfl⟩
set_option maxRecDepth 100000 in
set_option maxHeartbeats 1000000 in
theorem allWithin_c (A : Option Addr) (c : Nat) (rs : List Int) (lo hi : Int) (w : World) (hA : Rd w 1 A rs.length (ints rs)) (hl : rs.length ≤ 1048576) :
    Calls Try.prog 127 #[.slice A rs.length c, .int .i64 lo, .int .i64 hi] w fun e w' => e = .returned (.bool (!rs.any (M.outOf lo hi))) ∧ Below w.heap.size w w' := by
  have HA := Lib.hid hA
  have h := Lib.hid (fun b1 b2 W h1 h2 hA => ContainsFuncInt_c lo hi b1 b2 A c rs W h1 h2 hA hl)
  have hmf : ∀ (fn : Fn) (first cap : Array Value) (w : World), (Instr.makeFunc fn first cap).run Try.prog w = .ok (.func fn first cap) w := fun _ _ _ _ => rfl
  have hp := fun (o p : Obj) => ((Below.refl w.heap.size w).alloc (Nat.le_refl _) o).alloc (by simp) p
  clear hA
  generalize rs.any (M.outOf lo hi) = q at *
  go_enter Try.func127, Try.ntmps127
  go_wp2_with fail
  refine (h.out _ _ _ (by simp [go_sem]) (by simp [go_sem]) (HA.out.below (hp _ _))).mono ?_
  rintro e w1 ⟨rfl, rfl⟩
  go_wp2_with fail
  go_ret
  exact ⟨rfl, hp _ _⟩

end Go.Proofs.Ytlohpphmamapeaa
