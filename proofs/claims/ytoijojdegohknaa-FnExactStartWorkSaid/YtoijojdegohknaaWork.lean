/-
  The laws' helpers on Work; contracts of WorkOk.
  Conditions: at most 2^20 rules.
-/
import Derived.Test.YtoijojdegohknaaOkC2
import Derived.Test.YtoijojdegohknaaMarkRec
import Derived.Test.YtoijojdegohknaaRecPair
namespace Go.Proofs.Ytoijojdegohknaa
open Go.ChangeShapes Go.WideShapes Go.ChangeAt Go.RowKit Go.Joins Go.Deep
set_option linter.unusedVariables false
set_option linter.unusedSimpArgs false

theorem held8 {a w w1 : World} {b0 o0 : Nat} {u0 : Value} {b1 o1 : Nat} {u1 : Value} {b2 o2 : Nat} {u2 : Value} {b3 o3 : Nat} {u3 : Value} {b4 o4 : Nat} {u4 : Value} {b5 o5 : Nat} {u5 : Value} {b6 o6 : Nat} {u6 : Value} {b7 o7 : Nat} {u7 : Value} (h : w.cell? ⟨b0, o0, none⟩ = some u0 ∧ w.cell? ⟨b1, o1, none⟩ = some u1 ∧ w.cell? ⟨b2, o2, none⟩ = some u2 ∧ w.cell? ⟨b3, o3, none⟩ = some u3 ∧ w.cell? ⟨b4, o4, none⟩ = some u4 ∧ w.cell? ⟨b5, o5, none⟩ = some u5 ∧ w.cell? ⟨b6, o6, none⟩ = some u6 ∧ w.cell? ⟨b7, o7, none⟩ = some u7 ∧ Below a.heap.size a w) (hb : Below w.heap.size w w1) :
    w1.cell? ⟨b0, o0, none⟩ = some u0 ∧ w1.cell? ⟨b1, o1, none⟩ = some u1 ∧ w1.cell? ⟨b2, o2, none⟩ = some u2 ∧ w1.cell? ⟨b3, o3, none⟩ = some u3 ∧ w1.cell? ⟨b4, o4, none⟩ = some u4 ∧ w1.cell? ⟨b5, o5, none⟩ = some u5 ∧ w1.cell? ⟨b6, o6, none⟩ = some u6 ∧ w1.cell? ⟨b7, o7, none⟩ = some u7 ∧ Below a.heap.size a w1 :=
  ⟨cellKeep hb h.1, cellKeep hb h.2.1, cellKeep hb h.2.2.1, cellKeep hb h.2.2.2.1, cellKeep hb h.2.2.2.2.1, cellKeep hb h.2.2.2.2.2.1, cellKeep hb h.2.2.2.2.2.2.1, cellKeep hb h.2.2.2.2.2.2.2.1, below_then h.2.2.2.2.2.2.2.2 hb⟩
theorem held8_below {a w : World} {p0 p1 p2 p3 p4 p5 p6 p7 : Prop} (h : p0 ∧ p1 ∧ p2 ∧ p3 ∧ p4 ∧ p5 ∧ p6 ∧ p7 ∧ Below a.heap.size a w) : Below a.heap.size a w := h.2.2.2.2.2.2.2.2
/-- A call that returns a work with both of its slices in memory of its own. -/
def RetWork (k : Int) (rs qs : List M.Rule) (t : Int) (w : World) (x : Ending) (w' : World) : Prop :=
  ∃ A c B d, x = .returned (.agg #[.int .i64 k, .slice A rs.length c, .slice B qs.length d, .int .i64 t]) ∧ Own w' w.heap.size 2 A rs.length (ruls rs) ∧ Own w' w.heap.size 2 B qs.length (ruls qs) ∧ Below w.heap.size w w'
set_option maxRecDepth 100000 in
set_option maxHeartbeats 2000000 in
theorem szWork_c (k : Int) (A : Option Addr) (c : Nat) (rs : List M.Rule) (B : Option Addr) (d : Nat) (qs : List M.Rule) (t n : Int) (w : World) (hA : Rd w 2 A rs.length (ruls rs)) (hB : Rd w 2 B qs.length (ruls qs)) (hl : rs.length ≤ 9223372036854775807) (hql : qs.length ≤ 9223372036854775807) (hs : ∀ r ∈ rs, r.left.length ≤ 9223372036854775807 ∧ r.right.length ≤ 9223372036854775807) (hqs : ∀ r ∈ qs, r.left.length ≤ 9223372036854775807 ∧ r.right.length ≤ 9223372036854775807) (hn : n ≤ 1048576) (hn0 : 0 ≤ n) :
    Calls Try.prog 23 #[.agg #[.int .i64 k, .slice A rs.length c, .slice B qs.length d, .int .i64 t], .int .i64 n] w fun e w' => e = .returned (.int .i64 (if M.szRules rs n < 0 then -1 else if M.szRules qs (M.szRules rs n) < 0 then -1 else M.szRules qs (M.szRules rs n))) ∧ Below w.heap.size w w' := by
  have h1 := Lib.hid (fun W h => szSystem_c k A c rs n W h hl hs hn hn0)
  have HA := Lib.hid hA
  have HB := Lib.hid hB
  clear hA hB
  by_cases h0 : M.szRules rs n < 0
  case pos =>
    rw [if_pos h0]
    rw [if_pos h0] at h1
    clear h0 hs hqs
    go_enter Try.func23, Try.ntmps23
    go_wp2_with fail
    refine (h1.out _ (HA.out.below ((Below.refl _ _).alloc (Nat.le_refl _) _))).mono ?_
    rintro e w1 ⟨rfl, hb⟩
    go_wp2_with fail
    go_ret
    exact ⟨rfl, below_alloc1 hb⟩
  case neg =>
  rw [if_neg h0]
  rw [if_neg h0] at h1
  obtain ⟨_, _, hle⟩ := M.szRules_ok h0
  obtain ⟨z, hz⟩ : ∃ z, z = M.szRules rs n := ⟨_, rfl⟩
  rw [← hz] at h1 h0 hle ⊢
  have h2 := Lib.hid (fun W h => szRuleS_c B d qs z W h hql hqs (by omega) (by omega))
  clear hz hs hqs
  generalize M.szRules qs z = y at *
  by_cases h3 : y < 0
  all_goals
    first | rw [if_pos h3] | rw [if_neg h3]
    go_enter Try.func23, Try.ntmps23
    go_wp2_with fail
    refine (h1.out _ (HA.out.below ((Below.refl _ _).alloc (Nat.le_refl _) _))).mono ?_
    rintro e w1 ⟨rfl, hb⟩
    have c2 : w1.cell? ⟨w.heap.size, 2, none⟩ = some (.slice B qs.length d) := cellKeep hb (by simp [go_sem])
    have HB1 := Lib.hid (below_alloc1 hb)
    clear hb
    go_wp2_with fail
    refine (h2.out _ (HB.out.below HB1.out)).mono ?_
    rintro e w2 ⟨rfl, hb2⟩
    go_wp2_with fail
    go_ret
    exact ⟨rfl, HB1.out.trans (hb2.mono HB1.out.size)⟩
set_option maxRecDepth 100000 in
set_option maxHeartbeats 4000000 in
theorem toWork_c (k : Int) (A : Option Addr) (c : Nat) (rs : List M.Rule) (B : Option Addr) (d : Nat) (qs : List M.Rule) (t : Int) (w : World) (hA : Rd w 2 A rs.length (ruls rs)) (hB : Rd w 2 B qs.length (ruls qs)) (hl : rs.length ≤ 1048576) (hql : qs.length ≤ 1048576) :
    Calls Try.prog 25 #[.agg #[.int .i64 k, .slice A rs.length c, .slice B qs.length d, .int .i64 t]] w (RetWork k rs qs t w) := by
  have h1 := Lib.hid (fun W h => toSystem_c k A c rs W h hl)
  have h2 := Lib.hid (fun W h => toRuleS_c B d qs W h hql)
  have HA := Lib.hid hA
  have HB := Lib.hid hB
  clear hA hB
  go_enter Try.func25, Try.ntmps25
  go_wp2_with fail
  refine (h1.out _ (HA.out.below (by repeat (first | exact Below.refl _ _ | refine Below.setCell ?_ (by simp <;> omega) _ | refine Below.alloc ?_ (by simp <;> omega) _ | refine below_drewN ?_ _ | refine Below.drew ?_)))).mono ?_
  rintro e w1 ⟨A1, c1, rfl, ho, hb⟩
  have b0 : w1.cell? ⟨w.heap.size, 0, none⟩ = some (.int .i64 k) := cellKeep hb (by simp [go_sem])
  have b1 : w1.cell? ⟨w.heap.size, 1, none⟩ = some (.slice A rs.length c) := cellKeep hb (by simp [go_sem])
  have b2 : w1.cell? ⟨w.heap.size, 2, none⟩ = some (.slice B qs.length d) := cellKeep hb (by simp [go_sem])
  have b3 : w1.cell? ⟨w.heap.size, 3, none⟩ = some (.int .i64 t) := cellKeep hb (by simp [go_sem])
  have r0 : w1.cell? ⟨w.heap.size + 1, 0, none⟩ = some (.int .i64 0) := cellKeep hb (by simp [go_sem])
  have r1 : w1.cell? ⟨w.heap.size + 1, 1, none⟩ = some (.slice none 0 0) := cellKeep hb (by simp [go_sem])
  have r2 : w1.cell? ⟨w.heap.size + 1, 2, none⟩ = some (.slice none 0 0) := cellKeep hb (by simp [go_sem])
  have r3 : w1.cell? ⟨w.heap.size + 1, 3, none⟩ = some (.int .i64 0) := cellKeep hb (by simp [go_sem])
  have fr0 : w1.frozen? ⟨w.heap.size + 1, 0, none⟩ = false := ((bcell hb).2 _ _ (by simp)).trans (by simp [go_sem])
  have fr1 : w1.frozen? ⟨w.heap.size + 1, 1, none⟩ = false := ((bcell hb).2 _ _ (by simp)).trans (by simp [go_sem])
  have fr2 : w1.frozen? ⟨w.heap.size + 1, 2, none⟩ = false := ((bcell hb).2 _ _ (by simp)).trans (by simp [go_sem])
  have fr3 : w1.frozen? ⟨w.heap.size + 1, 3, none⟩ = false := ((bcell hb).2 _ _ (by simp)).trans (by simp [go_sem])
  have x0 : w1.cell? ⟨w.heap.size + 1 + 1, 0, none⟩ = some (.int .i64 0) := cellKeep hb (by simp [go_sem])
  have x1 : w1.cell? ⟨w.heap.size + 1 + 1, 1, none⟩ = some (.slice none 0 0) := cellKeep hb (by simp [go_sem])
  have x2 : w1.cell? ⟨w.heap.size + 1 + 1, 2, none⟩ = some (.slice none 0 0) := cellKeep hb (by simp [go_sem])
  have x3 : w1.cell? ⟨w.heap.size + 1 + 1, 3, none⟩ = some (.int .i64 0) := cellKeep hb (by simp [go_sem])
  have fx0 : w1.frozen? ⟨w.heap.size + 1 + 1, 0, none⟩ = false := ((bcell hb).2 _ _ (by simp)).trans (by simp [go_sem])
  have fx1 : w1.frozen? ⟨w.heap.size + 1 + 1, 1, none⟩ = false := ((bcell hb).2 _ _ (by simp)).trans (by simp [go_sem])
  have fx2 : w1.frozen? ⟨w.heap.size + 1 + 1, 2, none⟩ = false := ((bcell hb).2 _ _ (by simp)).trans (by simp [go_sem])
  have fx3 : w1.frozen? ⟨w.heap.size + 1 + 1, 3, none⟩ = false := ((bcell hb).2 _ _ (by simp)).trans (by simp [go_sem])
  have HB1 := Lib.hid (below_then (a := w) (by repeat (first | exact Below.refl _ _ | refine Below.setCell ?_ (by simp <;> omega) _ | refine Below.alloc ?_ (by simp <;> omega) _ | refine below_drewN ?_ _ | refine Below.drew ?_)) hb)
  have HS1 := Lib.hid (show w.heap.size + 3 ≤ w1.heap.size by have h := hb.size; (try simp at h); omega)
  have HO := Lib.hid (ho.mono (base' := w.heap.size + 3) (by simp <;> omega))
  clear hb ho
  obtain ⟨S, hS⟩ : ∃ S, S = Value.slice A1 rs.length c1 := ⟨_, rfl⟩
  have y2 : ((w1.setCell ⟨w.heap.size + 1 + 1, 0, none⟩ (.int .i64 k)).setCell ⟨w.heap.size + 1 + 1, 1, none⟩ S).cell? ⟨w.heap.size, 2, none⟩ = some (.slice B qs.length d) := by simp [cell_set_ne, b2]
  have y3 : ((w1.setCell ⟨w.heap.size + 1 + 1, 0, none⟩ (.int .i64 k)).setCell ⟨w.heap.size + 1 + 1, 1, none⟩ S).cell? ⟨w.heap.size, 3, none⟩ = some (.int .i64 t) := by simp [cell_set_ne, b3]
  subst hS
  go_wp2_with fail
  refine (h2.out _ (HB.out.below ((HB1.out.setCell (by simp <;> omega) _).setCell (by simp <;> omega) _))).mono ?_
  rintro e w2 ⟨B1, d1, rfl, ho2, hb2⟩
  have d3 : w2.cell? ⟨w.heap.size, 3, none⟩ = some (.int .i64 t) := cellKeep hb2 (by simp [cell_set_ne, b3])
  have s0 : w2.cell? ⟨w.heap.size + 1, 0, none⟩ = some (.int .i64 0) := cellKeep hb2 (by simp [cell_set_ne, r0])
  have s1 : w2.cell? ⟨w.heap.size + 1, 1, none⟩ = some (.slice none 0 0) := cellKeep hb2 (by simp [cell_set_ne, r1])
  have s2 : w2.cell? ⟨w.heap.size + 1, 2, none⟩ = some (.slice none 0 0) := cellKeep hb2 (by simp [cell_set_ne, r2])
  have s3 : w2.cell? ⟨w.heap.size + 1, 3, none⟩ = some (.int .i64 0) := cellKeep hb2 (by simp [cell_set_ne, r3])
  have z0 : w2.cell? ⟨w.heap.size + 1 + 1, 0, none⟩ = some (.int .i64 k) := cellKeep hb2 (by simp [cell_set_ne, set_some, isSome_keep, some_of x0, x0])
  have z1 : w2.cell? ⟨w.heap.size + 1 + 1, 1, none⟩ = some (.slice A1 rs.length c1) := cellKeep hb2 (by simp [cell_set_ne, set_some, isSome_keep, some_of x1, x1])
  have z2 : w2.cell? ⟨w.heap.size + 1 + 1, 2, none⟩ = some (.slice none 0 0) := cellKeep hb2 (by simp [cell_set_ne, set_some, isSome_keep, some_of x2, x2])
  have z3 : w2.cell? ⟨w.heap.size + 1 + 1, 3, none⟩ = some (.int .i64 0) := cellKeep hb2 (by simp [cell_set_ne, set_some, isSome_keep, some_of x3, x3])
  have gr0 : w2.frozen? ⟨w.heap.size + 1, 0, none⟩ = false := ((bcell hb2).2 _ _ (by have := World.block_lt_of_cell? w1 _ r0; simp; omega)).trans (by simpa using fr0)
  have gr1 : w2.frozen? ⟨w.heap.size + 1, 1, none⟩ = false := ((bcell hb2).2 _ _ (by have := World.block_lt_of_cell? w1 _ r1; simp; omega)).trans (by simpa using fr1)
  have gr2 : w2.frozen? ⟨w.heap.size + 1, 2, none⟩ = false := ((bcell hb2).2 _ _ (by have := World.block_lt_of_cell? w1 _ r2; simp; omega)).trans (by simpa using fr2)
  have gr3 : w2.frozen? ⟨w.heap.size + 1, 3, none⟩ = false := ((bcell hb2).2 _ _ (by have := World.block_lt_of_cell? w1 _ r3; simp; omega)).trans (by simpa using fr3)
  have gx0 : w2.frozen? ⟨w.heap.size + 1 + 1, 0, none⟩ = false := ((bcell hb2).2 _ _ (by have := World.block_lt_of_cell? w1 _ x0; simp; omega)).trans (by simpa using fx0)
  have gx1 : w2.frozen? ⟨w.heap.size + 1 + 1, 1, none⟩ = false := ((bcell hb2).2 _ _ (by have := World.block_lt_of_cell? w1 _ x1; simp; omega)).trans (by simpa using fx1)
  have gx2 : w2.frozen? ⟨w.heap.size + 1 + 1, 2, none⟩ = false := ((bcell hb2).2 _ _ (by have := World.block_lt_of_cell? w1 _ x2; simp; omega)).trans (by simpa using fx2)
  have gx3 : w2.frozen? ⟨w.heap.size + 1 + 1, 3, none⟩ = false := ((bcell hb2).2 _ _ (by have := World.block_lt_of_cell? w1 _ x3; simp; omega)).trans (by simpa using fx3)
  have HB2 := Lib.hid (below_then ((HB1.out.setCell (by simp <;> omega) _).setCell (by simp <;> omega) _) hb2)
  have HO1 := Lib.hid (((HO.out.setLow (b := w.heap.size + 1 + 1) (o := 0) (u := .int .i64 k) (by omega)).setLow (b := w.heap.size + 1 + 1) (o := 1) (u := .slice A1 rs.length c1) (by omega)).below hb2)
  have HO2 := Lib.hid (ho2.mono (base' := w.heap.size + 3) (by have := HS1.out; simp; omega))
  clear hb2 ho2
  clear b0 r0 x0 fr0 fx0 b1 r1 x1 fr1 fx1 b2 r2 x2 fr2 fx2 b3 r3 x3 fr3 fx3
  have u3 : (w2.setCell ⟨w.heap.size + 1 + 1, 2, none⟩ (.slice B1 qs.length d1)).cell? ⟨w.heap.size, 3, none⟩ = some (.int .i64 t) := by simp [cell_set_ne, d3]
  have v0 : ((w2.setCell ⟨w.heap.size + 1 + 1, 2, none⟩ (.slice B1 qs.length d1)).setCell ⟨w.heap.size + 1 + 1, 3, none⟩ (.int .i64 t)).cell? ⟨w.heap.size + 1 + 1, 0, none⟩ = some (.int .i64 k) := by simp [cell_set_ne, set_some, isSome_keep, some_of z0, z0]
  have v1 : ((w2.setCell ⟨w.heap.size + 1 + 1, 2, none⟩ (.slice B1 qs.length d1)).setCell ⟨w.heap.size + 1 + 1, 3, none⟩ (.int .i64 t)).cell? ⟨w.heap.size + 1 + 1, 1, none⟩ = some (.slice A1 rs.length c1) := by simp [cell_set_ne, set_some, isSome_keep, some_of z1, z1]
  have v2 : ((w2.setCell ⟨w.heap.size + 1 + 1, 2, none⟩ (.slice B1 qs.length d1)).setCell ⟨w.heap.size + 1 + 1, 3, none⟩ (.int .i64 t)).cell? ⟨w.heap.size + 1 + 1, 2, none⟩ = some (.slice B1 qs.length d1) := by simp [cell_set_ne, set_some, isSome_keep, some_of z2, z2]
  have v3 : ((w2.setCell ⟨w.heap.size + 1 + 1, 2, none⟩ (.slice B1 qs.length d1)).setCell ⟨w.heap.size + 1 + 1, 3, none⟩ (.int .i64 t)).cell? ⟨w.heap.size + 1 + 1, 3, none⟩ = some (.int .i64 t) := by simp [cell_set_ne, set_some, isSome_keep, some_of z3, z3]
  have m0 := some_of s0
  have m1 := some_of s1
  have m2 := some_of s2
  have m3 := some_of s3
  go_wp2_with fail
  refine bodyPost_ret (v := .agg #[.int .i64 k, .slice A1 rs.length c1, .slice B1 qs.length d1, .int .i64 t]) ?_ rfl ⟨_, _, _, _, rfl, ?_, ?_, ?_⟩
  · simp [results, Try.results25, go_sem, cell_set_ne, set_some, isSome_keep, m0, m1, m2, m3]
  · exact (((((((HO1.out.setLow (by omega)).setLow (by omega)).setLow (by omega)).setLow (by omega)).setLow (by omega)).setLow (by omega))).mono (by omega)
  · exact (((((((HO2.out.setLow (by omega)).setLow (by omega)).setLow (by omega)).setLow (by omega)).setLow (by omega)).setLow (by omega))).mono (by omega)
  · exact ((((((HB2.out.setCell (by simp <;> omega) _).setCell (by simp <;> omega) _).setCell (by simp <;> omega) _).setCell (by simp <;> omega) _).setCell (by simp <;> omega) _).setCell (by simp <;> omega) _)
set_option maxRecDepth 100000 in
set_option maxHeartbeats 2000000 in
theorem eqWork_t (k : Int) (A : Option Addr) (c : Nat) (rs : List M.Rule) (B : Option Addr) (d : Nat) (qs : List M.Rule) (t : Int) (A' : Option Addr) (c' : Nat) (B' : Option Addr) (d' : Nat) (w : World) (hA : Rd w 2 A rs.length (ruls rs)) (hB : Rd w 2 B qs.length (ruls qs)) (hA' : Rd w 2 A' rs.length (ruls rs)) (hB' : Rd w 2 B' qs.length (ruls qs)) (hl : rs.length ≤ 1099511627776) (hql : qs.length ≤ 1099511627776) :
    Calls Try.prog 18 #[.agg #[.int .i64 k, .slice A rs.length c, .slice B qs.length d, .int .i64 t], .agg #[.int .i64 k, .slice A' rs.length c', .slice B' qs.length d', .int .i64 t]] w fun e w' => e = .returned (.bool true) ∧ Below w.heap.size w w' := by
  have h1 := Lib.hid (fun W h h' => eqSystem_t k A A' c c' rs W h h' hl)
  have h2 := Lib.hid (fun W h h' => eqRuleS_t B B' d d' qs W h h' hql)
  have HP := Lib.hid (fun (o p : Obj) => ((Below.refl w.heap.size w).alloc (Nat.le_refl _) o).alloc (by simp) p)
  have HA := Lib.hid hA
  have HB := Lib.hid hB
  have HA' := Lib.hid hA'
  have HB' := Lib.hid hB'
  clear hA hB hA' hB'
  go_enter Try.func18, Try.ntmps18
  go_wp2_with fail
  refine (h1.out _ (HA.out.below (HP.out _ _)) (HA'.out.below (HP.out _ _))).mono ?_
  rintro e w1 ⟨rfl, hb⟩
  have a2 : w1.cell? ⟨w.heap.size, 2, none⟩ = some (.slice B qs.length d) := cellKeep hb (by simp [go_sem])
  have a3 : w1.cell? ⟨w.heap.size, 3, none⟩ = some (.int .i64 t) := cellKeep hb (by simp [go_sem])
  have b2 : w1.cell? ⟨w.heap.size + 1, 2, none⟩ = some (.slice B' qs.length d') := cellKeep hb (by simp [go_sem])
  have b3 : w1.cell? ⟨w.heap.size + 1, 3, none⟩ = some (.int .i64 t) := cellKeep hb (by simp [go_sem])
  have HW := Lib.hid (below_alloc2 hb)
  clear hb
  go_wp2_with fail
  refine (h2.out _ (HB.out.below HW.out) (HB'.out.below HW.out)).mono ?_
  rintro e w2 ⟨rfl, hb2⟩
  replace a3 := cellKeep hb2 a3
  replace b3 := cellKeep hb2 b3
  have HW2 := Lib.hid (HW.out.trans (hb2.mono HW.out.size))
  clear hb2 a2 b2
  go_wp2_with fail
  go_ret
  exact ⟨rfl, HW2.out⟩
def M.queueBad (k : Int) (r : M.Rule) : Bool := !(M.WordOk k r.left && M.WordOk k r.right)
def M.WorkOk (k : Int) (rs qs : List M.Rule) (t : Int) : Bool := M.SystemOk k rs && (decide (qs.length ≤ 400) && (M.within t 0 200 && !qs.any (M.queueBad k)))
theorem work_no1 {k : Int} {rs qs : List M.Rule} {t : Int} (h : M.SystemOk k rs = false) : M.WorkOk k rs qs t = false := by unfold M.WorkOk; rw [h]; rfl
theorem work_no2 {k : Int} {rs qs : List M.Rule} {t : Int} (h : ¬ qs.length ≤ 400) : M.WorkOk k rs qs t = false := by unfold M.WorkOk; rw [decide_eq_false h, Bool.false_and, Bool.and_false]
theorem work_no3 {k : Int} {rs qs : List M.Rule} {t : Int} (h : M.within t 0 200 = false) : M.WorkOk k rs qs t = false := by unfold M.WorkOk; rw [h, Bool.false_and, Bool.and_false, Bool.and_false]
theorem work_yes {k : Int} {rs qs : List M.Rule} {t : Int} (h1 : M.SystemOk k rs = true) (h2 : qs.length ≤ 400) (h3 : M.within t 0 200 = true) : M.WorkOk k rs qs t = !qs.any (M.queueBad k) := by unfold M.WorkOk; rw [h1, decide_eq_true h2, h3]; rfl
set_option maxRecDepth 100000 in
set_option maxHeartbeats 2000000 in
theorem WorkOk1_c (k : Int) (b : Nat) (r : M.Rule) (w : World) (h0 : w.cell? ⟨b, 0, none⟩ = some (.int .i64 k)) (hr : r.left.length ≤ 1048576 ∧ r.right.length ≤ 1048576) :
    Calls Try.prog 77 #[.agg #[.string ⟨r.left.toArray⟩, .string ⟨r.right.toArray⟩], .pointer (some ⟨b, 0, none⟩)] w fun e w' => e = .returned (.bool (M.queueBad k r)) ∧ Below w.heap.size w w' := by
  obtain ⟨rl, rr⟩ := r
  have h1 := Lib.hid (fun W => impl_WordOk_c k rl W hr.1)
  have h2 := Lib.hid (fun W => impl_WordOk_c k rr W hr.2)
  unfold M.queueBad
  have k0 := allocKeep1 h0
  simp only
  generalize M.WordOk k rl = x at *
  generalize M.WordOk k rr = y at *
  clear hr
  cases x
  case false =>
    go_enter Try.func77, Try.ntmps77
    go_wp2_with fail
    refine (h1.out _).mono ?_
    rintro e w1 ⟨rfl, rfl⟩
    go_wp2_with fail
    go_ret
    exact ⟨rfl, (Below.refl _ _).alloc (Nat.le_refl _) _⟩
  case true =>
    cases y
    all_goals
      go_enter Try.func77, Try.ntmps77
      go_wp2_with fail
      refine (h1.out _).mono ?_
      rintro e w1 ⟨rfl, rfl⟩
      go_wp2_with fail
      refine (h2.out _).mono ?_
      rintro e w1 ⟨rfl, rfl⟩
      go_wp2_with fail
      go_ret
      exact ⟨rfl, (Below.refl _ _).alloc (Nat.le_refl _) _⟩

abbrev RuleWorkOk1C (b : Nat) (p : M.Rule → Bool) (rs : List M.Rule) (w : World) : Prop := ∀ W, Below w.heap.size w W → ∀ r ∈ rs, Calls Try.prog 77 #[.agg #[.string ⟨r.left.toArray⟩, .string ⟨r.right.toArray⟩], .pointer (some ⟨b, 0, none⟩)] W fun e w' => e = .returned (.bool (p r)) ∧ Below W.heap.size W w'
set_option maxRecDepth 100000 in
set_option maxHeartbeats 2000000 in
theorem IndexFuncWorkOk1_c (b0 : Nat) (p : M.Rule → Bool) (A : Option Addr) (c : Nat) (rs : List M.Rule) (w : World) (hA : Rd w 2 A rs.length (ruls rs)) (hl : rs.length ≤ 1048576) (hc : RuleWorkOk1C b0 p rs w) :
    Calls Try.prog 97 #[.slice A rs.length c, .func (.func 77) #[] #[.pointer (some ⟨b0, 0, none⟩)]] w fun e w' => (∃ z : Int, e = .returned (.int .i64 z) ∧ decide (0 ≤ z) = rs.any p) ∧ Below w.heap.size w w' := by
  have HA := Lib.hid hA
  have HCC := Lib.hid hc
  obtain ⟨q, hq⟩ : ∃ q, q = rs.any p := ⟨_, rfl⟩
  rw [← hq]
  have HQ := Lib.hid hq
  obtain ⟨m, hm⟩ : ∃ m, m = rs.length := ⟨_, rfl⟩
  have hmb : m ≤ 1048576 := by omega
  rw [← hm]
  have HM := Lib.hid hm
  clear hA hc hq hm hl
  go_enter Try.func97, Try.ntmps97
  go_wp2
  go_loopw [8] (fun i wr => ∃ (k : Nat), k ≤ m ∧ i = .int .i64 k ∧ (rs.drop k).any p = q ∧ Below w.heap.size w wr) (fun i _ => m - (intOf i).toNat)
  case atStart => exact ⟨0, by omega, rfl, by rw [List.drop_zero, HQ.out], Below.refl _ _⟩
  case round =>
    obtain ⟨k, hk, rfl, hf, hb⟩ := hrel
    have HB := Lib.hid hb
    have HF := Lib.hid hf
    clear hb hf
    by_cases hlt : k < m
    · obtain ⟨b, o, rfl, hz, hc1, hc2⟩ := (HA.out.below HB.out).ruleAt (k := k) (by have := HM.out; omega)
      have hd : (rs.drop k).any p = (p rs[k] || (rs.drop (k + 1)).any p) := by rw [List.drop_eq_getElem_cons hz, List.any_cons]
      have HC := Lib.hid (HCC.out wr HB.out rs[k] (List.getElem_mem hz))
      have HF2 := Lib.hid (hd.symm.trans HF.out)
      clear hd
      generalize rs[k] = r at *
      obtain ⟨rl, rr⟩ := r
      simp only at hc1 hc2 HC
      generalize p ⟨rl, rr⟩ = v at *
      cases v
      case true =>
        go_wp2_with fail
        refine HC.out.mono ?_
        rintro e w1 ⟨rfl, hb1⟩
        go_wp2_with fail
        go_ret
        exact ⟨⟨k, rfl, by have := HF2.out; rw [← this]; simp⟩, HB.out.trans (hb1.mono HB.out.size)⟩
      case false =>
        go_wp2_with fail
        refine HC.out.mono ?_
        rintro e w1 ⟨rfl, hb1⟩
        go_wp2_with fail
        go_roundw
        case rel => exact ⟨k + 1, by omega, by go_num, by have := HF2.out; rw [← this]; simp, HB.out.trans (hb1.mono HB.out.size)⟩
        case measure => simp [intOf] <;> omega
    · have e : q = false := by have := HF.out; rw [List.drop_eq_nil_of_le (by have := HM.out; omega)] at this; exact this.symm
      go_wp2
      go_ret
      exact ⟨⟨-1, rfl, by rw [e]; rfl⟩, HB.out⟩
set_option maxRecDepth 100000 in
set_option maxHeartbeats 1000000 in
theorem ContainsFuncWorkOk1_c (b0 : Nat) (p : M.Rule → Bool) (A : Option Addr) (c : Nat) (rs : List M.Rule) (w : World) (hA : Rd w 2 A rs.length (ruls rs)) (hl : rs.length ≤ 1048576) (hc : RuleWorkOk1C b0 p rs w) :
    Calls Try.prog 67 #[.slice A rs.length c, .func (.func 77) #[] #[.pointer (some ⟨b0, 0, none⟩)]] w fun e w' => e = .returned (.bool (rs.any p)) ∧ Below w.heap.size w w' := by
  have h1 := Lib.hid (IndexFuncWorkOk1_c b0 p A c rs w hA hl hc)
  clear hA hc
  generalize rs.any p = q at *
  go_enter Try.func67, Try.ntmps67
  go_wp2_with fail
  refine h1.out.mono ?_
  rintro e w1 ⟨⟨z, rfl, hz⟩, hb⟩
  go_wp2_with fail
  go_ret
  exact ⟨rfl, hb⟩

set_option maxRecDepth 100000 in
set_option maxHeartbeats 4000000 in
theorem spec_WorkOk_c (k : Int) (A : Option Addr) (c : Nat) (rs : List M.Rule) (B : Option Addr) (d : Nat) (qs : List M.Rule) (t : Int) (w : World) (hA : Rd w 2 A rs.length (ruls rs)) (hB : Rd w 2 B qs.length (ruls qs)) (hl : rs.length ≤ 1048576) (hs : ∀ r ∈ rs, r.left.length ≤ 1048576 ∧ r.right.length ≤ 1048576) (hql : qs.length ≤ 1048576) (hqs : ∀ r ∈ qs, r.left.length ≤ 1048576 ∧ r.right.length ≤ 1048576) :
    Calls Try.prog 24 #[.agg #[.int .i64 k, .slice A rs.length c, .slice B qs.length d, .int .i64 t]] w fun e w' => e = .returned (.bool (M.WorkOk k rs qs t)) ∧ Below w.heap.size w w' := by
  have h1 := Lib.hid (fun W hA => spec_SystemOk_c k A c rs W hA hl hs)
  have h2 := Lib.hid (fun W => l01In_c t 0 200 W)
  have HA := Lib.hid hA
  have HB := Lib.hid hB
  have HQ := Lib.hid hqs
  have HP := Lib.hid (fun (o : Obj) => (Below.refl w.heap.size w).alloc (Nat.le_refl _) o)
  obtain ⟨x, hx⟩ : ∃ x, x = M.SystemOk k rs := ⟨_, rfl⟩
  rw [← hx] at h1
  clear hA hB hs hqs
  cases x
  case false =>
    rw [work_no1 hx.symm]
    clear hx
    go_enter Try.func24, Try.ntmps24
    go_wp2_with fail
    refine (h1.out _ (HA.out.below (HP.out _))).mono ?_
    rintro e w1 ⟨rfl, hb⟩
    go_wp2_with fail
    go_ret
    exact ⟨rfl, below_alloc1 hb⟩
  case true =>
  have HX := Lib.hid hx.symm
  clear hx
  by_cases hq4 : qs.length ≤ 400
  case neg =>
    rw [work_no2 hq4]
    have hq4' : (400 : Int) < (qs.length : Int) := by omega
    go_enter Try.func24, Try.ntmps24
    go_wp2_with fail
    refine (h1.out _ (HA.out.below (HP.out _))).mono ?_
    rintro e w1 ⟨rfl, hb⟩
    have a2 : w1.cell? ⟨w.heap.size, 2, none⟩ = some (.slice B qs.length d) := cellKeep hb (by simp [go_sem])
    have HB1 := Lib.hid (below_alloc1 hb)
    clear hb
    go_wp2_with fail
    go_ret
    exact ⟨rfl, HB1.out⟩
  case pos =>
  have hq4' : ¬ ((400 : Int) < (qs.length : Int)) := by omega
  obtain ⟨y, hy⟩ : ∃ y, y = M.within t 0 200 := ⟨_, rfl⟩
  rw [← hy] at h2
  cases y
  case false =>
    rw [work_no3 hy.symm]
    clear hy
    go_enter Try.func24, Try.ntmps24
    go_wp2_with fail
    refine (h1.out _ (HA.out.below (HP.out _))).mono ?_
    rintro e w1 ⟨rfl, hb⟩
    have a2 : w1.cell? ⟨w.heap.size, 2, none⟩ = some (.slice B qs.length d) := cellKeep hb (by simp [go_sem])
    have a3 : w1.cell? ⟨w.heap.size, 3, none⟩ = some (.int .i64 t) := cellKeep hb (by simp [go_sem])
    have HB1 := Lib.hid (below_alloc1 hb)
    clear hb
    go_wp2_with fail
    refine (h2.out _).mono ?_
    rintro e w2 ⟨rfl, rfl⟩
    go_wp2_with fail
    go_ret
    exact ⟨rfl, HB1.out⟩
  case true =>
  rw [work_yes HX.out hq4 hy.symm]
  clear hy
  obtain ⟨q, hqq⟩ : ∃ q, q = qs.any (M.queueBad k) := ⟨_, rfl⟩
  rw [← hqq]
  have HQQ := Lib.hid hqq
  obtain ⟨m, hm⟩ : ∃ m, m = qs.length := ⟨_, rfl⟩
  have HM := Lib.hid hm
  have hmb : m ≤ 400 := by omega
  rw [← hm] at HB hq4' ⊢
  clear hqq hq4 hm
  go_enter Try.func24, Try.ntmps24
  go_wp2_with fail
  refine (h1.out _ (HA.out.below (HP.out _))).mono ?_
  rintro e w1 ⟨rfl, hb⟩
  have a0 : w1.cell? ⟨w.heap.size, 0, none⟩ = some (.int .i64 k) := cellKeep hb (by simp [go_sem])
  have a2 : w1.cell? ⟨w.heap.size, 2, none⟩ = some (.slice B m d) := cellKeep hb (by simp [go_sem])
  have a3 : w1.cell? ⟨w.heap.size, 3, none⟩ = some (.int .i64 t) := cellKeep hb (by simp [go_sem])
  have A0 := Lib.hid a0
  have HB1 := Lib.hid (below_alloc1 hb)
  clear hb a0
  go_wp2_with fail
  refine (h2.out _).mono ?_
  rintro e w2 ⟨rfl, rfl⟩
  go_wp2_with fail
  clear a2 a3
  go_loopw [24] (fun i wr => ∃ (j : Nat), j ≤ m ∧ i = .int .i64 j ∧ (qs.drop j).any (M.queueBad k) = q ∧ Below w1.heap.size w1 wr) (fun i _ => m - (intOf i).toNat)
  case atStart => exact ⟨0, by omega, rfl, by rw [List.drop_zero, HQQ.out], Below.refl _ _⟩
  case round =>
    obtain ⟨j, hj, rfl, hf, hb⟩ := hrel
    have a0 := cellKeep hb A0.out
    have a1 := allocKeep1 a0
    have HW := Lib.hid hb
    have HF := Lib.hid hf
    by_cases hlt : j < m
    case neg =>
      have e : q = false := by rw [List.drop_eq_nil_of_le (by have := HM.out; omega)] at hf; exact hf.symm
      clear hf hb a1
      go_wp2
      go_ret
      exact ⟨by rw [e]; rfl, HB1.out.trans (HW.out.mono HB1.out.size)⟩
    case pos =>
      obtain ⟨b, o, rfl, hz, hc1, hc2⟩ := ((HB.out.below HB1.out).below hb).ruleAt (k := j) hlt
      have hd : (qs.drop j).any (M.queueBad k) = (M.queueBad k qs[j] || (qs.drop (j + 1)).any (M.queueBad k)) := by rw [List.drop_eq_getElem_cons hz, List.any_cons]
      have hsz := HQ.out qs[j] (List.getElem_mem hz)
      have HF2 := Lib.hid (hd.symm.trans hf)
      clear hd hf hb
      generalize qs[j] = r at *
      obtain ⟨rl, rr⟩ := r
      simp only at hc1 hc2 hsz
      have HC1 := Lib.hid (fun W => spec_WordOk_c k rl W hsz.1)
      have HC2 := Lib.hid (fun W => spec_WordOk_c k rr W hsz.2)
      unfold M.queueBad at HF2
      simp only at HF2
      generalize M.WordOk k rl = x at *
      generalize M.WordOk k rr = y at *
      clear hsz
      cases x
      case false =>
        have HE := Lib.hid (show true = q by rw [← HF2.out]; rfl)
        go_wp2_with fail
        refine (HC1.out _).mono ?_
        rintro e w2 ⟨rfl, rfl⟩
        go_wp2_with fail
        go_ret
        exact ⟨by rw [← HE.out]; rfl, HB1.out.trans ((HW.out.trans (((Below.refl wr.heap.size wr).alloc (Nat.le_refl _) _).mono HW.out.size)).mono HB1.out.size)⟩
      case true =>
      cases y
      case false =>
        have HE := Lib.hid (show true = q by rw [← HF2.out]; rfl)
        go_wp2_with fail
        refine (HC1.out _).mono ?_
        rintro e w2 ⟨rfl, rfl⟩
        go_wp2_with fail
        refine (HC2.out _).mono ?_
        rintro e w2 ⟨rfl, rfl⟩
        go_wp2_with fail
        go_ret
        exact ⟨by rw [← HE.out]; rfl, HB1.out.trans ((HW.out.trans (((Below.refl wr.heap.size wr).alloc (Nat.le_refl _) _).mono HW.out.size)).mono HB1.out.size)⟩
      case true =>
        have HE := Lib.hid (show (qs.drop (j + 1)).any (fun r => !(M.WordOk k r.left && M.WordOk k r.right)) = q from HF2.out)
        go_wp2_with fail
        refine (HC1.out _).mono ?_
        rintro e w2 ⟨rfl, rfl⟩
        go_wp2_with fail
        refine (HC2.out _).mono ?_
        rintro e w2 ⟨rfl, rfl⟩
        go_wp2_with fail
        go_roundw
        case rel => exact ⟨j + 1, by omega, by go_num, HE.out, HW.out.trans (((Below.refl wr.heap.size wr).alloc (Nat.le_refl _) _).mono HW.out.size)⟩
        case measure => simp [intOf] <;> omega

set_option maxRecDepth 100000 in
set_option maxHeartbeats 4000000 in
theorem impl_WorkOk_c (k : Int) (A : Option Addr) (c : Nat) (rs : List M.Rule) (B : Option Addr) (d : Nat) (qs : List M.Rule) (t : Int) (w : World) (hA : Rd w 2 A rs.length (ruls rs)) (hB : Rd w 2 B qs.length (ruls qs)) (hl : rs.length ≤ 1048576) (hs : ∀ r ∈ rs, r.left.length ≤ 1048576 ∧ r.right.length ≤ 1048576) (hql : qs.length ≤ 1048576) (hqs : ∀ r ∈ qs, r.left.length ≤ 1048576 ∧ r.right.length ≤ 1048576) :
    Calls Try.prog 26 #[.agg #[.int .i64 k, .slice A rs.length c, .slice B qs.length d, .int .i64 t]] w fun e w' => e = .returned (.bool (M.WorkOk k rs qs t)) ∧ Below w.heap.size w w' := by
  have h1 := Lib.hid (fun W hA => impl_SystemOk_c k A c rs W hA hl hs)
  have h2 := Lib.hid (fun W => within_c t 0 200 W)
  have HA := Lib.hid hA
  have HB := Lib.hid hB
  have HQ := Lib.hid hqs
  have HP := Lib.hid (fun (o : Obj) => (Below.refl w.heap.size w).alloc (Nat.le_refl _) o)
  obtain ⟨x, hx⟩ : ∃ x, x = M.SystemOk k rs := ⟨_, rfl⟩
  rw [← hx] at h1
  clear hA hB hs hqs
  cases x
  case false =>
    rw [work_no1 hx.symm]
    clear hx
    go_enter Try.func26, Try.ntmps26
    go_wp2_with fail
    refine (h1.out _ (HA.out.below (HP.out _))).mono ?_
    rintro e w1 ⟨rfl, hb⟩
    go_wp2_with fail
    go_ret
    exact ⟨rfl, below_alloc1 hb⟩
  case true =>
  have HX := Lib.hid hx.symm
  clear hx
  by_cases hq4 : qs.length ≤ 400
  case neg =>
    rw [work_no2 hq4]
    have hq4' : (400 : Int) < (qs.length : Int) := by omega
    go_enter Try.func26, Try.ntmps26
    go_wp2_with fail
    refine (h1.out _ (HA.out.below (HP.out _))).mono ?_
    rintro e w1 ⟨rfl, hb⟩
    have a2 : w1.cell? ⟨w.heap.size, 2, none⟩ = some (.slice B qs.length d) := cellKeep hb (by simp [go_sem])
    have HB1 := Lib.hid (below_alloc1 hb)
    clear hb
    go_wp2_with fail
    go_ret
    exact ⟨rfl, HB1.out⟩
  case pos =>
  have hq4' : ¬ ((400 : Int) < (qs.length : Int)) := by omega
  obtain ⟨y, hy⟩ : ∃ y, y = M.within t 0 200 := ⟨_, rfl⟩
  rw [← hy] at h2
  cases y
  case false =>
    rw [work_no3 hy.symm]
    clear hy
    go_enter Try.func26, Try.ntmps26
    go_wp2_with fail
    refine (h1.out _ (HA.out.below (HP.out _))).mono ?_
    rintro e w1 ⟨rfl, hb⟩
    have a2 : w1.cell? ⟨w.heap.size, 2, none⟩ = some (.slice B qs.length d) := cellKeep hb (by simp [go_sem])
    have a3 : w1.cell? ⟨w.heap.size, 3, none⟩ = some (.int .i64 t) := cellKeep hb (by simp [go_sem])
    have HB1 := Lib.hid (below_alloc1 hb)
    clear hb
    go_wp2_with fail
    refine (h2.out _).mono ?_
    rintro e w2 ⟨rfl, rfl⟩
    go_wp2_with fail
    go_ret
    exact ⟨rfl, HB1.out⟩
  case true =>
  rw [work_yes HX.out hq4 hy.symm]
  clear hy
  have h3 := Lib.hid (fun b0 W h hc => ContainsFuncWorkOk1_c b0 (M.queueBad k) B d qs W h hql hc)
  generalize hqq : qs.any (M.queueBad k) = q at *
  have hmf : ∀ (fn : Fn) (first cap : Array Value) (w : World), (Instr.makeFunc fn first cap).run Try.prog w = .ok (.func fn first cap) w := fun _ _ _ _ => rfl
  clear hqq hq4
  go_enter Try.func26, Try.ntmps26
  go_wp2_with fail
  refine (h1.out _ (HA.out.below (HP.out _))).mono ?_
  rintro e w1 ⟨rfl, hb⟩
  have a0 : w1.cell? ⟨w.heap.size, 0, none⟩ = some (.int .i64 k) := cellKeep hb (by simp [go_sem])
  have a2 : w1.cell? ⟨w.heap.size, 2, none⟩ = some (.slice B qs.length d) := cellKeep hb (by simp [go_sem])
  have a3 : w1.cell? ⟨w.heap.size, 3, none⟩ = some (.int .i64 t) := cellKeep hb (by simp [go_sem])
  have A0 := Lib.hid a0
  have HB1 := Lib.hid (below_alloc1 hb)
  clear hb a0
  go_wp2_with fail
  refine (h2.out _).mono ?_
  rintro e w2 ⟨rfl, rfl⟩
  go_wp2_with fail
  refine (h3.out w.heap.size _ (HB.out.below HB1.out) (fun W hW r hr => WorkOk1_c k w.heap.size r W (cellKeep hW A0.out) (HQ.out r hr))).mono ?_
  rintro e w3 ⟨rfl, hb3⟩
  go_wp2_with fail
  go_ret
  exact ⟨rfl, HB1.out.trans (hb3.mono HB1.out.size)⟩

theorem Try.cellsLawWork : Try.prog.cellsOf 40 = 4 := by kernel_rfl
theorem Try.cellsLawRules : Try.prog.cellsOf 22 = 1 := by kernel_rfl
theorem Try.cellsLawInt : Try.prog.cellsOf 3 = 1 := by kernel_rfl
theorem list4 {cs : Array Value} (h : cs.size = 4) : ∃ a b c d, cs = #[a, b, c, d] := by
  obtain ⟨l⟩ := cs
  match l, h with
  | [a, b, c, d], _ => exact ⟨a, b, c, d, rfl⟩
section
variable {H : Type} {enc : TypeId × Value → H} {w : World} {b0 : Nat} {held : Bool} {spare : Nat → Bool} {v : Value} {d : DataW H} {p : List MemPlace}
set_option maxRecDepth 100000 in
theorem openWork (hv : Value.okWide Try.prog w .any b0 40 v) (h : DataW.Trod enc Try.prog w 0 spare held 40 v d p) :
    ∃ (k : Int) (A : Option Addr) (c : Nat) (rs : List M.Rule) (B : Option Addr) (d : Nat) (qs : List M.Rule) (t : Int), v = .agg #[.int .i64 k, .slice A rs.length c, .slice B qs.length d, .int .i64 t] ∧ ((rs.length ≤ 9223372036854775807 ∧ Rd w 2 A rs.length (ruls rs) ∧ ∀ r ∈ rs, r.left.length ≤ 9223372036854775807 ∧ r.right.length ≤ 9223372036854775807) ∧ (qs.length ≤ 9223372036854775807 ∧ Rd w 2 B qs.length (ruls qs) ∧ ∀ r ∈ qs, r.left.length ≤ 9223372036854775807 ∧ r.right.length ≤ 9223372036854775807)) := by
  obtain ⟨cs, rfl, hsz⟩ := okWide_struct Try.underlying40 hv
  obtain ⟨c0, c1, c2, c3, rfl⟩ := list4 (hsz.trans Try.cellsLawWork)
  obtain ⟨fuel, hf⟩ := h
  obtain ⟨xs, n, _, _, _, hx, hfi⟩ := DataW.trod_struct Try.underlying40 hf
  have h0 : DataW.trod enc Try.prog w 0 spare held n 38 (([c0, c1, c2, c3].drop 0).take (Try.prog.cellsOf 38)) = xs[0]? := hfi 0 _ rfl
  have h1 : DataW.trod enc Try.prog w 0 spare held n 22 (([c0, c1, c2, c3].drop 2).take (Try.prog.cellsOf 22)) = xs[1]? := hfi 1 _ rfl
  have h2 : DataW.trod enc Try.prog w 0 spare held n 3 (([c0, c1, c2, c3].drop 3).take (Try.prog.cellsOf 3)) = xs[2]? := hfi 2 _ rfl
  rw [List.getElem?_eq_getElem (by rw [hx]; decide)] at h0 h1 h2
  rw [Try.cellsLawSystem] at h0
  rw [Try.cellsLawRules] at h1
  rw [Try.cellsLawInt] at h2
  simp only [List.drop_zero, List.drop_succ_cons, List.take_succ_cons, List.take_zero] at h0 h1 h2
  obtain ⟨_, k', hk⟩ := structCells Try.underlying38 (by kernel_rfl) Try.cellsLawSystem h0
  obtain ⟨y0, g0⟩ := hk 0 _ c0 rfl rfl
  obtain ⟨y1, g1⟩ := hk 1 _ c1 rfl rfl
  obtain ⟨k, rfl, _⟩ := openOneInt g0
  obtain ⟨A, c, rs, rfl, r1, r2, r3⟩ := openRuleSlice g1
  obtain ⟨B, d, qs, rfl, q1, q2, q3⟩ := openRuleSlice h1
  obtain ⟨t, rfl, _⟩ := openOneInt h2
  exact ⟨k, A, c, rs, B, d, qs, t, rfl, ⟨r1, r2, r3⟩, ⟨q1, q2, q3⟩⟩
end

end Go.Proofs.Ytoijojdegohknaa
