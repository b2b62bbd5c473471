/-
  The laws' helpers on slices of integers and on tables: measured, copied, compared; openers.
  Conditions: at most 2^20 elements.
-/
import Derived.Test.YtlohpphmamapeaaEqC
import Derived.Test.YtlohpphmamapeaaPart
import Derived.Test.YtlohpphmamapeaaOpen2
import Derived.Test.YtlohpphmamapeaaToB
namespace Go.Proofs.Ytlohpphmamapeaa
open Go.ChangeShapes Go.WideShapes Go.ChangeAt Go.RowKit Go.Joins Go.Deep
set_option linter.unusedVariables false

def int1 (z : Int) : List Value := [.int .i64 z]
theorem ints_flat : ∀ zs : List Int, zs.flatMap int1 = ints zs
  | [] => rfl
  | z :: zs => by rw [List.flatMap_cons, ints_flat zs]; rfl
theorem part1 {rs : List Int} {zs : List Value} {k : Nat} (hk : k < rs.length) (hz : zs.length = rs.length) : (part int1 rs zs 1 k).set k (.int .i64 rs[k]) = part int1 rs zs 1 (k + 1) := by
  have hl := part_len (f := int1) (s := 1) (fun _ => rfl) rs k
  rw [Nat.min_eq_left (by omega), Nat.mul_one] at hl
  unfold part
  rw [Nat.mul_one, List.drop_eq_getElem_cons (l := zs) (i := k) (by omega), set_here _ _ _ _ hl.symm, List.take_succ_eq_append_getElem hk, List.flatMap_append, Nat.mul_one]
  simp [int1]

set_option maxRecDepth 100000 in
theorem szIntS_c (A : Option Addr) (c m : Nat) (n : Int) (w : World) (hl : m ≤ 9223372036854775807) (hn : n ≤ 1048576) (hn0 : 0 ≤ n) :
    Calls Try.prog 67 #[.slice A m c, .int .i64 n] w fun e w' => e = .returned (.int .i64 (if n - m < 0 then -1 else n - m)) ∧ w = w' := by
  by_cases h : n - m < 0
  all_goals
    first | rw [if_pos h] | rw [if_neg h]
    go_enter Try.func67, Try.ntmps67
    go_wp2
    go_ret
    exact ⟨rfl, rfl⟩
set_option maxRecDepth 100000 in
set_option maxHeartbeats 1000000 in
theorem toIntS_c (A : Option Addr) (c : Nat) (rs : List Int) (w : World) (hA : Rd w 1 A rs.length (ints rs)) (hl : rs.length ≤ 1048576) :
    Calls Try.prog 24 #[.slice A rs.length c] w (RetRd (fun A c => .slice A rs.length c) 1 rs.length (ints rs) w) := by
  have HA := Lib.hid hA
  obtain ⟨n, hn⟩ : ∃ n, n = rs.length := ⟨_, rfl⟩
  have hnb : n ≤ 1048576 := by omega
  have HN := Lib.hid hn
  rw [← hn]
  clear hA hl hn
  go_enter Try.func24, Try.ntmps24
  go_wp2_with (at_make; refine make_law rfl _ rfl slInt rfl (by omega) ?_; intro zs w' hzl hown hb')
  obtain ⟨g, hg⟩ : ∃ g, g = w.heap.size := ⟨_, rfl⟩
  rw [← hg] at hown ⊢
  have HO := Lib.hid hown
  have HB := Lib.hid hb'
  have HL := Lib.hid hzl
  have HG := Lib.hid hg
  clear hown hb' hzl hg
  go_loopw [4] (fun i wr => ∃ k : Nat, k ≤ n ∧ i = .int .i64 k ∧ Own wr g 1 (some ⟨g, 0, none⟩) n (part int1 rs zs 1 k) ∧ Below w.heap.size w wr) (fun i _ => n - (intOf i).toNat)
  case atStart => exact ⟨0, by omega, rfl, by rw [part_zero]; exact HO.out, HB.out⟩
  case round =>
    obtain ⟨k, hk, rfl, hown, hb⟩ := hrel
    by_cases hlt : k < n
    · obtain ⟨b, o, rfl, hz, hc⟩ := (HA.out.below hb).intAt (k := k) (by have := HN.out; omega)
      have HP := Lib.hid (part1 (zs := zs) hz (by have h1 := HL.out; have h2 := HN.out; omega))
      obtain ⟨hgb, hcs, hfs, hset⟩ := hown.at0 (by omega)
      have hlm : k < (part int1 rs zs 1 k).length := by have := hown.len; omega
      have hv := hcs k _ (List.getElem?_eq_getElem hlm)
      have hf := hfs k
      have HS := Lib.hid (hset k (.int .i64 rs[k]))
      have HT := Lib.hid hb
      have HGG := Lib.hid hgb
      generalize (part int1 rs zs 1 k)[k] = v at hv
      rw [HP.out] at HS
      clear hcs hfs hset hown hb hgb HP
      generalize rs[k] = x at *
      go_wp2_with fail
      go_roundw
      case rel => exact ⟨k + 1, by omega, by go_num, HS.out, by have hgs := HG.out; have hts := HT.out; repeat (first | exact hts | refine Below.setCell ?_ (by simp; omega) _)⟩
      case measure => simp [intOf]; omega
    · obtain rfl : k = n := by omega
      have HO := Lib.hid hown
      have HB := Lib.hid hb
      clear hown hb
      go_wp2
      go_ret
      exact ⟨_, _, rfl, by have h1 := HO.out; have h2 := HN.out; subst h2; rw [part_all (by simpa using HL.out), ints_flat] at h1; have h3 := HG.out; subst h3; exact h1, HB.out⟩
section
variable {H : Type} {enc : TypeId × Value → H} {w : World} {b0 : Nat} {held : Bool} {spare : Nat → Bool} {v : Value} {d : DataW H} {p : List MemPlace}
theorem Try.cellsInt : Try.prog.cellsOf 3 = 1 := by kernel_rfl
set_option maxRecDepth 100000 in
theorem openIntSlice {n : Nat} {v : Value} {y : DataW H × List MemPlace} (h : DataW.trod enc Try.prog w 0 spare held n 35 [v] = some y) :
    ∃ (A : Option Addr) (c : Nat) (zs : List Int), v = .slice A zs.length c ∧ zs.length ≤ 9223372036854775807 ∧ Rd w 1 A zs.length (ints zs) ∧ ∀ z ∈ zs, -9223372036854775808 ≤ z ∧ z ≤ 9223372036854775807 := by
  obtain ⟨A, c, zs, e, h1, h2, h3⟩ := openElems int1 (fun z => -9223372036854775808 ≤ z ∧ z ≤ 9223372036854775807) (fun _ => rfl) (by decide) Try.underlying35 Try.cellsInt (fun m cs y hl hy => by
    match cs, hl with
    | [c0], _ =>
      obtain ⟨k, rfl, hk⟩ := openOneInt hy
      exact ⟨k, rfl, hk⟩) h
  exact ⟨A, c, zs, e, h1, by rwa [ints_flat] at h2, h3⟩
set_option maxRecDepth 100000 in
theorem openInts (hv : Value.okWide Try.prog w .any b0 35 v) (h : DataW.Trod enc Try.prog w 0 spare held 35 v d p) :
    ∃ (A : Option Addr) (c : Nat) (zs : List Int), v = .slice A zs.length c ∧ (zs.length ≤ 9223372036854775807 ∧ Rd w 1 A zs.length (ints zs) ∧ ∀ z ∈ zs, -9223372036854775808 ≤ z ∧ z ≤ 9223372036854775807) := by
  obtain ⟨a0, len, cap, rfl⟩ := okWide_slice Try.underlying35 hv
  obtain ⟨fuel, hf⟩ := h
  obtain ⟨A, c, xs, e, h1, h2, h3⟩ := openIntSlice (v := .slice a0 len cap) (by simpa [Value.cells] using hf)
  exact ⟨A, c, xs, e, h1, h2, h3⟩
theorem Try.cellsLawTable : Try.prog.cellsOf 37 = 2 := by kernel_rfl
set_option maxRecDepth 100000 in
theorem openTable (hv : Value.okWide Try.prog w .any b0 37 v) (h : DataW.Trod enc Try.prog w 0 spare held 37 v d p) :
    ∃ (k : Int) (A : Option Addr) (c : Nat) (zs : List Int), v = .agg #[.int .i64 k, .slice A zs.length c] ∧ ((-9223372036854775808 ≤ k ∧ k ≤ 9223372036854775807) ∧ zs.length ≤ 9223372036854775807 ∧ Rd w 1 A zs.length (ints zs) ∧ ∀ z ∈ zs, -9223372036854775808 ≤ z ∧ z ≤ 9223372036854775807) := by
  obtain ⟨c0, c1, y0, y1, m, rfl, rfl, rfl, hy0, hy1⟩ := open_agg2 Try.underlying37 (by kernel_rfl) Try.cellsLawTable hv h
  obtain ⟨k, rfl, hk⟩ := openOneInt hy0
  obtain ⟨A, c, rs, rfl, h1, h2, h3⟩ := openIntSlice hy1
  exact ⟨k, A, c, rs, rfl, hk, h1, h2, h3⟩
end
set_option maxRecDepth 100000 in
set_option maxHeartbeats 1000000 in
theorem szTable_c (k : Int) (A : Option Addr) (c : Nat) (rs : List Int) (n : Int) (w : World) (hA : Rd w 1 A rs.length (ints rs)) (hl : rs.length ≤ 9223372036854775807) (hn : n ≤ 1048576) (hn0 : 0 ≤ n) :
    Calls Try.prog 21 #[.agg #[.int .i64 k, .slice A rs.length c], .int .i64 n] w fun e w' => e = .returned (.int .i64 (if n - rs.length < 0 then -1 else n - rs.length)) ∧ Below w.heap.size w w' := by
  have h1 := Lib.hid (fun W => toBelow1 (szIntS_c A c rs.length n W hl hn hn0))
  have HA := Lib.hid hA
  by_cases hneg : n - rs.length < 0
  all_goals
    first | rw [if_pos hneg] | rw [if_neg hneg]
    first | rw [if_pos hneg] at h1 | rw [if_neg hneg] at h1
    clear hA
    obtain ⟨z, hz⟩ : ∃ z, z = n - (rs.length : Int) := ⟨_, rfl⟩
    rw [← hz] at hneg
    try rw [← hz] at h1
    try rw [← hz]
    clear hz
    go_enter Try.func21, Try.ntmps21
    go_wp2_with fail
    refine (h1.out _).mono ?_
    rintro e w1 ⟨rfl, hb1⟩
    go_wp2_with fail
    go_ret
    exact ⟨rfl, below_alloc1 hb1⟩
set_option maxRecDepth 100000 in
set_option maxHeartbeats 1000000 in
theorem toTable_c (k : Int) (A : Option Addr) (c : Nat) (rs : List Int) (w : World) (hA : Rd w 1 A rs.length (ints rs)) (hl : rs.length ≤ 1048576) :
    Calls Try.prog 23 #[.agg #[.int .i64 k, .slice A rs.length c]] w (RetRd (fun A c => .agg #[.int .i64 k, .slice A rs.length c]) 1 rs.length (ints rs) w) := by
  have h1 := Lib.hid (fun W h => toIntS_c A c rs W h hl)
  have HA := Lib.hid hA
  clear hA
  go_enter Try.func23, Try.ntmps23
  go_wp2_with fail
  refine (h1.out _ (HA.out.below (by repeat (first | exact Below.refl _ _ | refine Below.setCell ?_ (by simp <;> omega) _ | refine Below.alloc ?_ (by simp <;> omega) _)))).mono ?_
  rintro e w1 ⟨A1, c1, rfl, hr, hb1⟩
  have k1 : w1.cell? ⟨w.heap.size + 1 + 1, 0, none⟩ = some (.int .i64 k) := cellKeep hb1 (by simp [go_sem])
  have k2 : w1.cell? ⟨w.heap.size + 1 + 1, 1, none⟩ = some (.slice none 0 0) := cellKeep hb1 (by simp [go_sem])
  have d1 : w1.cell? ⟨w.heap.size + 1, 0, none⟩ = some (.int .i64 0) := cellKeep hb1 (by simp [go_sem])
  have d2 : w1.cell? ⟨w.heap.size + 1, 1, none⟩ = some (.slice none 0 0) := cellKeep hb1 (by simp [go_sem])
  have f1 : w1.frozen? ⟨w.heap.size + 1 + 1, 1, none⟩ = false := ((bcell hb1).2 _ _ (by simp)).trans (by simp [go_sem])
  have f2 : w1.frozen? ⟨w.heap.size + 1, 0, none⟩ = false := ((bcell hb1).2 _ _ (by simp)).trans (by simp [go_sem])
  have f3 : w1.frozen? ⟨w.heap.size + 1, 1, none⟩ = false := ((bcell hb1).2 _ _ (by simp)).trans (by simp [go_sem])
  have HO := Lib.hid (hr.mono (base' := w.heap.size + 3) (by simp))
  have HB := Lib.hid (below_alloc1 (below_alloc1 (below_alloc1 hb1)))
  clear hr hb1
  obtain ⟨S, hS⟩ : ∃ S, S = Value.slice A1 rs.length c1 := ⟨_, rfl⟩
  have e1 : (w1.setCell ⟨w.heap.size + 1 + 1, 1, none⟩ S).cell? ⟨w.heap.size + 1, 0, none⟩ = some (.int .i64 0) := (cell_set_ne _ (by omega)).trans d1
  have e2 : (w1.setCell ⟨w.heap.size + 1 + 1, 1, none⟩ S).cell? ⟨w.heap.size + 1, 1, none⟩ = some (.slice none 0 0) := (cell_set_ne _ (by omega)).trans d2
  have e3 : (w1.setCell ⟨w.heap.size + 1 + 1, 1, none⟩ S).cell? ⟨w.heap.size + 1 + 1, 1, none⟩ = some S := cell_set_eq _ k2
  have e4 : (w1.setCell ⟨w.heap.size + 1 + 1, 1, none⟩ S).cell? ⟨w.heap.size + 1 + 1, 0, none⟩ = some (.int .i64 k) := (cell_set_ne _ (by omega)).trans k1
  subst hS
  go_wp2_with fail
  refine bodyPost_ret (v := .agg #[.int .i64 k, .slice A1 rs.length c1]) ?_ rfl ⟨_, _, rfl, ?_, ?_⟩
  · simp [results, Try.results23, go_sem, cell_set_ne, cell_set_eq _ e1, cell_two' e2]
  · exact (((HO.out.setLow (by omega)).setLow (by omega)).setLow (by omega)).mono (by omega)
  · exact ((HB.out.setCell (by simp; omega) _).setCell (by simp) _).setCell (by simp) _
set_option maxRecDepth 100000 in
set_option maxHeartbeats 1000000 in
theorem eqTable_t (k : Int) (A B : Option Addr) (c d : Nat) (rs : List Int) (w : World) (hA : Rd w 1 A rs.length (ints rs)) (hB : Rd w 1 B rs.length (ints rs)) (hx : rs.length ≤ 1099511627776) :
    Calls Try.prog 27 #[.agg #[.int .i64 k, .slice A rs.length c], .agg #[.int .i64 k, .slice B rs.length d]] w fun e w' => e = .returned (.bool true) ∧ Below w.heap.size w w' := by
  have h1 := Lib.hid (fun W h h' => eqIntS_t A B c d rs W h h' hx)
  have HA := Lib.hid hA
  have HB := Lib.hid hB
  clear hA hB
  go_enter Try.func27, Try.ntmps27
  go_wp2_with fail
  have hp := fun (o p : Obj) => ((Below.refl w.heap.size w).alloc (Nat.le_refl _) o).alloc (by simp) p
  refine (h1.out _ (HA.out.below (hp _ _)) (HB.out.below (hp _ _))).mono ?_
  rintro e w1 ⟨rfl, hb1⟩
  go_wp2_with fail
  go_ret
  exact ⟨rfl, below_alloc2 hb1⟩

end Go.Proofs.Ytlohpphmamapeaa
