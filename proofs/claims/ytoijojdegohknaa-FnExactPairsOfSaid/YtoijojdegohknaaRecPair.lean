/-
  The laws' helpers on Pair and on slices of Pair: their cells; copied, compared, measured; openers.
  Conditions: at most 2^20 elements.
-/
import Derived.Test.YtoijojdegohknaaOpen3
namespace Go.Proofs.Ytoijojdegohknaa
open Go.ChangeShapes Go.WideShapes Go.ChangeAt Go.RowKit Go.Joins Go.Deep
set_option linter.unusedVariables false
set_option linter.unusedSimpArgs false

structure M.Pair where
  word : List UInt8
  r1 : Int
  p1 : Int
  r2 : Int
  p2 : Int
def pairCells (x : M.Pair) : List Value := [.string ⟨x.word.toArray⟩, .int .i64 x.r1, .int .i64 x.p1, .int .i64 x.r2, .int .i64 x.p2]
def pairs_ (xs : List M.Pair) : List Value := xs.flatMap pairCells
theorem pairs_len (xs : List M.Pair) : (pairs_ xs).length = xs.length * 5 := flat_len (f := pairCells) (s := 5) (fun _ => rfl) xs
theorem pairs_add (a b : List M.Pair) : pairs_ (a ++ b) = pairs_ a ++ pairs_ b := by simp [pairs_]
theorem Rd.pairAt {w : World} {A : Option Addr} {n : Nat} {xs : List M.Pair} (h : Rd w 5 A n (pairs_ xs)) {k : Nat} (hk : k < n) :
    ∃ b o, A = some ⟨b, o, none⟩ ∧ ∃ hz : k < xs.length, w.cell? ⟨b, o + k * 5, none⟩ = some (.string ⟨xs[k].word.toArray⟩) ∧ w.cell? ⟨b, o + k * 5 + 1, none⟩ = some (.int .i64 xs[k].r1) ∧ w.cell? ⟨b, o + k * 5 + 2, none⟩ = some (.int .i64 xs[k].p1) ∧ w.cell? ⟨b, o + k * 5 + 3, none⟩ = some (.int .i64 xs[k].r2) ∧ w.cell? ⟨b, o + k * 5 + 4, none⟩ = some (.int .i64 xs[k].p2) := by
  obtain ⟨b, o, e, hc⟩ := h.2 (by omega)
  have hl : k < xs.length := by have := h.1; rw [pairs_len] at this; omega
  have hq := fun q hq => flat_at (f := pairCells) (s := 5) (fun _ => rfl) xs k q hl hq
  refine ⟨b, o, e, hl, ?_, ?_, ?_, ?_, ?_⟩
  · simpa using hc (k * 5) _ (hq 0 (by omega))
  · rw [Nat.add_assoc]; exact hc (k * 5 + 1) _ (hq 1 (by omega))
  · rw [Nat.add_assoc]; exact hc (k * 5 + 2) _ (hq 2 (by omega))
  · rw [Nat.add_assoc]; exact hc (k * 5 + 3) _ (hq 3 (by omega))
  · rw [Nat.add_assoc]; exact hc (k * 5 + 4) _ (hq 4 (by omega))
theorem isSome_keep {w : World} {b o b' o' : Nat} {v : Value} (h : (w.cell? ⟨b', o', none⟩).isSome = true) : ((w.setCell ⟨b, o, none⟩ v).cell? ⟨b', o', none⟩).isSome = true := by
  obtain ⟨u, hu⟩ := Option.isSome_iff_exists.1 h
  by_cases e : b = b' ∧ o = o'
  · obtain ⟨rfl, rfl⟩ := e
    rw [cell_set_eq v hu]
    rfl
  · rw [cell_set_ne v (by omega), hu]
    rfl
theorem set_some {w : World} {b o : Nat} {v : Value} (h : (w.cell? ⟨b, o, none⟩).isSome = true) : (w.setCell ⟨b, o, none⟩ v).cell? ⟨b, o, none⟩ = some v := by
  obtain ⟨u, hu⟩ := Option.isSome_iff_exists.1 h
  exact cell_set_eq v hu
theorem some_of {w : World} {b o : Nat} {v : Value} (h : w.cell? ⟨b, o, none⟩ = some v) : (w.cell? ⟨b, o, none⟩).isSome = true := by rw [h]; rfl

set_option maxRecDepth 100000 in
set_option maxHeartbeats 4000000 in
theorem toPair_c (x0 : List UInt8) (x1 x2 x3 x4 : Int) (w : World) : Calls Try.prog 53 #[.agg #[.string ⟨x0.toArray⟩, .int .i64 x1, .int .i64 x2, .int .i64 x3, .int .i64 x4]] w fun e w' => e = .returned (.agg #[.string ⟨x0.toArray⟩, .int .i64 x1, .int .i64 x2, .int .i64 x3, .int .i64 x4]) ∧ Below w.heap.size w w' := by
  go_enter Try.func53, Try.ntmps53
  go_wp2_with fail
  refine (toStep_c _ _ _).mono ?_
  rintro e w1 ⟨rfl, hb⟩
  have b0 : w1.cell? ⟨w.heap.size, 0, none⟩ = some (.string ⟨x0.toArray⟩) := cellKeep hb (by simp [go_sem])
  have b1 : w1.cell? ⟨w.heap.size, 1, none⟩ = some (.int .i64 x1) := cellKeep hb (by simp [go_sem])
  have b2 : w1.cell? ⟨w.heap.size, 2, none⟩ = some (.int .i64 x2) := cellKeep hb (by simp [go_sem])
  have b3 : w1.cell? ⟨w.heap.size, 3, none⟩ = some (.int .i64 x3) := cellKeep hb (by simp [go_sem])
  have b4 : w1.cell? ⟨w.heap.size, 4, none⟩ = some (.int .i64 x4) := cellKeep hb (by simp [go_sem])
  have r0 : w1.cell? ⟨w.heap.size + 1, 0, none⟩ = some (.string ⟨#[]⟩) := cellKeep hb (by simp [go_sem])
  have r1 : w1.cell? ⟨w.heap.size + 1, 1, none⟩ = some (.int .i64 0) := cellKeep hb (by simp [go_sem])
  have r2 : w1.cell? ⟨w.heap.size + 1, 2, none⟩ = some (.int .i64 0) := cellKeep hb (by simp [go_sem])
  have r3 : w1.cell? ⟨w.heap.size + 1, 3, none⟩ = some (.int .i64 0) := cellKeep hb (by simp [go_sem])
  have r4 : w1.cell? ⟨w.heap.size + 1, 4, none⟩ = some (.int .i64 0) := cellKeep hb (by simp [go_sem])
  have c0 : w1.cell? ⟨w.heap.size + 1 + 1, 0, none⟩ = some (.string ⟨x0.toArray⟩) := cellKeep hb (by simp [go_sem])
  have c1 : w1.cell? ⟨w.heap.size + 1 + 1, 1, none⟩ = some (.int .i64 0) := cellKeep hb (by simp [go_sem])
  have c2 : w1.cell? ⟨w.heap.size + 1 + 1, 2, none⟩ = some (.int .i64 0) := cellKeep hb (by simp [go_sem])
  have c3 : w1.cell? ⟨w.heap.size + 1 + 1, 3, none⟩ = some (.int .i64 0) := cellKeep hb (by simp [go_sem])
  have c4 : w1.cell? ⟨w.heap.size + 1 + 1, 4, none⟩ = some (.int .i64 0) := cellKeep hb (by simp [go_sem])
  have fr0 : w1.frozen? ⟨w.heap.size + 1, 0, none⟩ = false := ((bcell hb).2 _ _ (by simp)).trans (by simp [go_sem])
  have fr1 : w1.frozen? ⟨w.heap.size + 1, 1, none⟩ = false := ((bcell hb).2 _ _ (by simp)).trans (by simp [go_sem])
  have fr2 : w1.frozen? ⟨w.heap.size + 1, 2, none⟩ = false := ((bcell hb).2 _ _ (by simp)).trans (by simp [go_sem])
  have fr3 : w1.frozen? ⟨w.heap.size + 1, 3, none⟩ = false := ((bcell hb).2 _ _ (by simp)).trans (by simp [go_sem])
  have fr4 : w1.frozen? ⟨w.heap.size + 1, 4, none⟩ = false := ((bcell hb).2 _ _ (by simp)).trans (by simp [go_sem])
  have fc0 : w1.frozen? ⟨w.heap.size + 1 + 1, 0, none⟩ = false := ((bcell hb).2 _ _ (by simp)).trans (by simp [go_sem])
  have fc1 : w1.frozen? ⟨w.heap.size + 1 + 1, 1, none⟩ = false := ((bcell hb).2 _ _ (by simp)).trans (by simp [go_sem])
  have fc2 : w1.frozen? ⟨w.heap.size + 1 + 1, 2, none⟩ = false := ((bcell hb).2 _ _ (by simp)).trans (by simp [go_sem])
  have fc3 : w1.frozen? ⟨w.heap.size + 1 + 1, 3, none⟩ = false := ((bcell hb).2 _ _ (by simp)).trans (by simp [go_sem])
  have fc4 : w1.frozen? ⟨w.heap.size + 1 + 1, 4, none⟩ = false := ((bcell hb).2 _ _ (by simp)).trans (by simp [go_sem])
  have HB := Lib.hid (below_then (a := w) (by repeat (first | exact Below.refl _ _ | refine Below.setCell ?_ (by simp <;> omega) _ | refine Below.alloc ?_ (by simp <;> omega) _ | refine below_drewN ?_ _ | refine Below.drew ?_)) hb)
  clear hb
  go_wp2_with fail
  refine (toStep_c _ _ _).mono ?_
  rintro e w2 ⟨rfl, hb2⟩
  have p0 : w2.cell? ⟨w.heap.size + 1, 0, none⟩ = some (.string ⟨#[]⟩) := cellKeep hb2 (by simp [cell_set_ne, r0])
  have p1 : w2.cell? ⟨w.heap.size + 1, 1, none⟩ = some (.int .i64 0) := cellKeep hb2 (by simp [cell_set_ne, r1])
  have p2 : w2.cell? ⟨w.heap.size + 1, 2, none⟩ = some (.int .i64 0) := cellKeep hb2 (by simp [cell_set_ne, r2])
  have p3 : w2.cell? ⟨w.heap.size + 1, 3, none⟩ = some (.int .i64 0) := cellKeep hb2 (by simp [cell_set_ne, r3])
  have p4 : w2.cell? ⟨w.heap.size + 1, 4, none⟩ = some (.int .i64 0) := cellKeep hb2 (by simp [cell_set_ne, r4])
  have d0 : w2.cell? ⟨w.heap.size + 1 + 1, 0, none⟩ = some (.string ⟨x0.toArray⟩) := cellKeep hb2 (by simp [cell_set_ne, set_some, isSome_keep, some_of c0, c0])
  have d1 : w2.cell? ⟨w.heap.size + 1 + 1, 1, none⟩ = some (.int .i64 x1) := cellKeep hb2 (by simp [cell_set_ne, set_some, isSome_keep, some_of c1, c1])
  have d2 : w2.cell? ⟨w.heap.size + 1 + 1, 2, none⟩ = some (.int .i64 x2) := cellKeep hb2 (by simp [cell_set_ne, set_some, isSome_keep, some_of c2, c2])
  have d3 : w2.cell? ⟨w.heap.size + 1 + 1, 3, none⟩ = some (.int .i64 0) := cellKeep hb2 (by simp [cell_set_ne, set_some, isSome_keep, some_of c3, c3])
  have d4 : w2.cell? ⟨w.heap.size + 1 + 1, 4, none⟩ = some (.int .i64 0) := cellKeep hb2 (by simp [cell_set_ne, set_some, isSome_keep, some_of c4, c4])
  have gr0 : w2.frozen? ⟨w.heap.size + 1, 0, none⟩ = false := ((bcell hb2).2 _ _ (by have := World.block_lt_of_cell? w1 _ r0; simp; omega)).trans (by simpa using fr0)
  have gr1 : w2.frozen? ⟨w.heap.size + 1, 1, none⟩ = false := ((bcell hb2).2 _ _ (by have := World.block_lt_of_cell? w1 _ r1; simp; omega)).trans (by simpa using fr1)
  have gr2 : w2.frozen? ⟨w.heap.size + 1, 2, none⟩ = false := ((bcell hb2).2 _ _ (by have := World.block_lt_of_cell? w1 _ r2; simp; omega)).trans (by simpa using fr2)
  have gr3 : w2.frozen? ⟨w.heap.size + 1, 3, none⟩ = false := ((bcell hb2).2 _ _ (by have := World.block_lt_of_cell? w1 _ r3; simp; omega)).trans (by simpa using fr3)
  have gr4 : w2.frozen? ⟨w.heap.size + 1, 4, none⟩ = false := ((bcell hb2).2 _ _ (by have := World.block_lt_of_cell? w1 _ r4; simp; omega)).trans (by simpa using fr4)
  have gc0 : w2.frozen? ⟨w.heap.size + 1 + 1, 0, none⟩ = false := ((bcell hb2).2 _ _ (by have := World.block_lt_of_cell? w1 _ c0; simp; omega)).trans (by simpa using fc0)
  have gc1 : w2.frozen? ⟨w.heap.size + 1 + 1, 1, none⟩ = false := ((bcell hb2).2 _ _ (by have := World.block_lt_of_cell? w1 _ c1; simp; omega)).trans (by simpa using fc1)
  have gc2 : w2.frozen? ⟨w.heap.size + 1 + 1, 2, none⟩ = false := ((bcell hb2).2 _ _ (by have := World.block_lt_of_cell? w1 _ c2; simp; omega)).trans (by simpa using fc2)
  have gc3 : w2.frozen? ⟨w.heap.size + 1 + 1, 3, none⟩ = false := ((bcell hb2).2 _ _ (by have := World.block_lt_of_cell? w1 _ c3; simp; omega)).trans (by simpa using fc3)
  have gc4 : w2.frozen? ⟨w.heap.size + 1 + 1, 4, none⟩ = false := ((bcell hb2).2 _ _ (by have := World.block_lt_of_cell? w1 _ c4; simp; omega)).trans (by simpa using fc4)
  have HB2 := Lib.hid (below_then (HB.out.setCell (by simp <;> omega) _ |>.setCell (by simp <;> omega) _) hb2)
  clear hb2
  clear b0 r0 c0 fr0 fc0 b1 r1 c1 fr1 fc1 b2 r2 c2 fr2 fc2 b3 r3 c3 fr3 fc3 b4 r4 c4 fr4 fc4
  have e0 : ((w2.setCell ⟨w.heap.size + 1 + 1, 3, none⟩ (.int .i64 x3)).setCell ⟨w.heap.size + 1 + 1, 4, none⟩ (.int .i64 x4)).cell? ⟨w.heap.size + 1 + 1, 0, none⟩ = some (.string ⟨x0.toArray⟩) := by simp [cell_set_ne, set_some, isSome_keep, some_of d0, d0]
  have e1 : ((w2.setCell ⟨w.heap.size + 1 + 1, 3, none⟩ (.int .i64 x3)).setCell ⟨w.heap.size + 1 + 1, 4, none⟩ (.int .i64 x4)).cell? ⟨w.heap.size + 1 + 1, 1, none⟩ = some (.int .i64 x1) := by simp [cell_set_ne, set_some, isSome_keep, some_of d1, d1]
  have e2 : ((w2.setCell ⟨w.heap.size + 1 + 1, 3, none⟩ (.int .i64 x3)).setCell ⟨w.heap.size + 1 + 1, 4, none⟩ (.int .i64 x4)).cell? ⟨w.heap.size + 1 + 1, 2, none⟩ = some (.int .i64 x2) := by simp [cell_set_ne, set_some, isSome_keep, some_of d2, d2]
  have e3 : ((w2.setCell ⟨w.heap.size + 1 + 1, 3, none⟩ (.int .i64 x3)).setCell ⟨w.heap.size + 1 + 1, 4, none⟩ (.int .i64 x4)).cell? ⟨w.heap.size + 1 + 1, 3, none⟩ = some (.int .i64 x3) := by simp [cell_set_ne, set_some, isSome_keep, some_of d3, d3]
  have e4 : ((w2.setCell ⟨w.heap.size + 1 + 1, 3, none⟩ (.int .i64 x3)).setCell ⟨w.heap.size + 1 + 1, 4, none⟩ (.int .i64 x4)).cell? ⟨w.heap.size + 1 + 1, 4, none⟩ = some (.int .i64 x4) := by simp [cell_set_ne, set_some, isSome_keep, some_of d4, d4]
  have s0 := some_of p0
  have s1 := some_of p1
  have s2 := some_of p2
  have s3 := some_of p3
  have s4 := some_of p4
  go_wp2_with fail
  refine bodyPost_ret (v := .agg #[.string ⟨x0.toArray⟩, .int .i64 x1, .int .i64 x2, .int .i64 x3, .int .i64 x4]) ?_ rfl ⟨rfl, ?_⟩
  · simp [results, Try.results53, go_sem, cell_set_ne, set_some, isSome_keep, s0, s1, s2, s3, s4]
  · exact (((((((HB2.out.setCell (by simp <;> omega) _).setCell (by simp <;> omega) _).setCell (by simp <;> omega) _).setCell (by simp <;> omega) _).setCell (by simp <;> omega) _).setCell (by simp <;> omega) _).setCell (by simp <;> omega) _)
set_option maxRecDepth 100000 in
set_option maxHeartbeats 1000000 in
theorem szPair_c (x0 : List UInt8) (x1 x2 x3 x4 : Int) (n : Int) (w : World) (hl : x0.length ≤ 9223372036854775807) (hn : n ≤ 1048576) (hn0 : 0 ≤ n) : Calls Try.prog 51 #[.agg #[.string ⟨x0.toArray⟩, .int .i64 x1, .int .i64 x2, .int .i64 x3, .int .i64 x4], .int .i64 n] w fun e w' => e = .returned (.int .i64 (if n - x0.length < 0 then -1 else n - x0.length)) ∧ Below w.heap.size w w' := by
  by_cases h : n - x0.length < 0
  all_goals
    first | rw [if_pos h] | rw [if_neg h]
    go_enter Try.func51, Try.ntmps51
    go_wp2
    go_ret
    exact ⟨rfl, (Below.refl _ _).alloc (Nat.le_refl _) _⟩
theorem Try.cellsLawPair : Try.prog.cellsOf 73 = 5 := by kernel_rfl
theorem Try.cellsLawString : Try.prog.cellsOf 9 = 1 := by kernel_rfl
theorem list5 {cs : Array Value} (h : cs.size = 5) : ∃ a b c d e, cs = #[a, b, c, d, e] := by
  obtain ⟨l⟩ := cs
  match l, h with
  | [a, b, c, d, e], _ => exact ⟨a, b, c, d, e, rfl⟩
section
variable {H : Type} {enc : TypeId × Value → H} {w : World} {b0 : Nat} {held : Bool} {spare : Nat → Bool} {v : Value} {d : DataW H} {p : List MemPlace}
theorem openStepCells {n : Nat} {a b : Value} {y : DataW H × List MemPlace} (hy : DataW.trod enc Try.prog w 0 spare held n 59 [a, b] = some y) : ∃ x z : Int, a = .int .i64 x ∧ b = .int .i64 z := by
  obtain ⟨_, k, hk⟩ := structCells Try.underlying59 (by kernel_rfl) Try.cellsLawStep hy
  obtain ⟨y0, h0⟩ := hk 0 _ a rfl rfl
  obtain ⟨y1, h1⟩ := hk 1 _ b rfl rfl
  obtain ⟨x0, rfl, _⟩ := openOneInt h0
  obtain ⟨x1, rfl, _⟩ := openOneInt h1
  exact ⟨x0, x1, rfl, rfl⟩
set_option maxRecDepth 100000 in
theorem openPair (hv : Value.okWide Try.prog w .any b0 73 v) (h : DataW.Trod enc Try.prog w 0 spare held 73 v d p) :
    ∃ x : M.Pair, v = .agg #[.string ⟨x.word.toArray⟩, .int .i64 x.r1, .int .i64 x.p1, .int .i64 x.r2, .int .i64 x.p2] ∧ x.word.length ≤ 9223372036854775807 := by
  obtain ⟨cs, rfl, hsz⟩ := okWide_struct Try.underlying73 hv
  obtain ⟨c0, c1, c2, c3, c4, rfl⟩ := list5 (hsz.trans Try.cellsLawPair)
  obtain ⟨fuel, hf⟩ := h
  obtain ⟨xs, n, _, _, _, hx, hfi⟩ := DataW.trod_struct Try.underlying73 hf
  have h0 : DataW.trod enc Try.prog w 0 spare held n 9 (([c0, c1, c2, c3, c4].drop 0).take (Try.prog.cellsOf 9)) = xs[0]? := hfi 0 _ rfl
  have h1 : DataW.trod enc Try.prog w 0 spare held n 59 (([c0, c1, c2, c3, c4].drop 1).take (Try.prog.cellsOf 59)) = xs[1]? := hfi 1 _ rfl
  have h2 : DataW.trod enc Try.prog w 0 spare held n 59 (([c0, c1, c2, c3, c4].drop 3).take (Try.prog.cellsOf 59)) = xs[2]? := hfi 2 _ rfl
  rw [List.getElem?_eq_getElem (by rw [hx]; decide)] at h0 h1 h2
  rw [Try.cellsLawString] at h0
  rw [Try.cellsLawStep] at h1 h2
  simp only [List.drop_zero, List.drop_succ_cons, List.take_succ_cons, List.take_zero] at h0 h1 h2
  obtain ⟨l, rfl, hl⟩ := openOneString h0
  obtain ⟨a, b, rfl, rfl⟩ := openStepCells h1
  obtain ⟨c, d, rfl, rfl⟩ := openStepCells h2
  exact ⟨⟨l, a, b, c, d⟩, rfl, hl⟩
end

theorem held7 {a w w1 : World} {b0 o0 : Nat} {u0 : Value} {b1 o1 : Nat} {u1 : Value} {b2 o2 : Nat} {u2 : Value} {b3 o3 : Nat} {u3 : Value} {b4 o4 : Nat} {u4 : Value} {b5 o5 : Nat} {u5 : Value} {b6 o6 : Nat} {u6 : Value} (h : w.cell? ⟨b0, o0, none⟩ = some u0 ∧ w.cell? ⟨b1, o1, none⟩ = some u1 ∧ w.cell? ⟨b2, o2, none⟩ = some u2 ∧ w.cell? ⟨b3, o3, none⟩ = some u3 ∧ w.cell? ⟨b4, o4, none⟩ = some u4 ∧ w.cell? ⟨b5, o5, none⟩ = some u5 ∧ w.cell? ⟨b6, o6, none⟩ = some u6 ∧ Below a.heap.size a w) (hb : Below w.heap.size w w1) :
    w1.cell? ⟨b0, o0, none⟩ = some u0 ∧ w1.cell? ⟨b1, o1, none⟩ = some u1 ∧ w1.cell? ⟨b2, o2, none⟩ = some u2 ∧ w1.cell? ⟨b3, o3, none⟩ = some u3 ∧ w1.cell? ⟨b4, o4, none⟩ = some u4 ∧ w1.cell? ⟨b5, o5, none⟩ = some u5 ∧ w1.cell? ⟨b6, o6, none⟩ = some u6 ∧ Below a.heap.size a w1 :=
  ⟨cellKeep hb h.1, cellKeep hb h.2.1, cellKeep hb h.2.2.1, cellKeep hb h.2.2.2.1, cellKeep hb h.2.2.2.2.1, cellKeep hb h.2.2.2.2.2.1, cellKeep hb h.2.2.2.2.2.2.1, below_then h.2.2.2.2.2.2.2 hb⟩
theorem held7_below {a w : World} {p0 p1 p2 p3 p4 p5 p6 : Prop} (h : p0 ∧ p1 ∧ p2 ∧ p3 ∧ p4 ∧ p5 ∧ p6 ∧ Below a.heap.size a w) : Below a.heap.size a w := h.2.2.2.2.2.2.2

end Go.Proofs.Ytoijojdegohknaa
