/-
  Contracts of SidesOk, OrientRule and of equality of rules.
  Conditions: lengths of at most 2^20.
-/
import Derived.Test.YtlohpphmamapeaaWordOk
import Derived.Test.YtlohpphmamapeaaRuleC
import Derived.Test.YtlohpphmamapeaaLess
import Derived.Test.YtlohpphmamapeaaModRule
import Derived.Test.YtlohpphmamapeaaToB
import Derived.Test.YtlohpphmamapeaaOwn
namespace Go.Proofs.Ytlohpphmamapeaa
open Go.RowKit
set_option linter.unusedVariables false

theorem cell_two {w : World} {b : Nat} {u : Value} (d : w.cell? ⟨b, 1, none⟩ = some u) (v1 v2 : Value) : ((w.setCell ⟨b, 0, none⟩ v1).setCell ⟨b, 1, none⟩ v2).cell? ⟨b, 1, none⟩ = some v2 :=
  cell_set_eq v2 ((cell_set_ne v1 (Or.inr (by decide))).trans d)

set_option maxRecDepth 100000 in
set_option maxHeartbeats 2000000 in
theorem impl_SidesOk_c (k : Int) (l r : List UInt8) (w : World) (hl : l.length ≤ 1048576) (hr : r.length ≤ 1048576) : Calls Try.prog 116 #[.int .i64 k, .agg #[.string ⟨l.toArray⟩, .string ⟨r.toArray⟩]] w fun e w' => e = .returned (.bool (M.SidesOk k ⟨l, r⟩)) ∧ Below w.heap.size w w' := by
  unfold M.SidesOk
  have h1 := Lib.hid (fun W => impl_WordOk_c k l W hl)
  have h2 := Lib.hid (fun W => impl_WordOk_c k r W hr)
  generalize M.WordOk k l = x at *
  generalize M.WordOk k r = y at *
  obtain ⟨v, hv⟩ : ∃ v, v = decide ((r.length : Int) ≤ 8) := ⟨_, rfl⟩
  obtain ⟨u, hu⟩ : ∃ u, u = decide ((l.length : Int) ≤ 8) := ⟨_, rfl⟩
  simp only [← hu, ← hv]
  replace hu := hu.symm
  replace hv := hv.symm
  cases x
  case false =>
    clear hu hv
    go_enter Try.func116, Try.ntmps116
    go_wp2_with fail
    refine (h1.out _).mono ?_
    rintro e w' ⟨rfl, rfl⟩
    go_wp2_with fail
    go_ret
    exact ⟨rfl, (Below.refl _ _).alloc (Nat.le_refl _) _⟩
  cases y
  case false =>
    clear hu hv
    go_enter Try.func116, Try.ntmps116
    go_wp2_with fail
    refine (h1.out _).mono ?_
    rintro e w' ⟨rfl, rfl⟩
    go_wp2_with fail
    refine (h2.out _).mono ?_
    rintro e w' ⟨rfl, rfl⟩
    go_wp2_with fail
    go_ret
    exact ⟨rfl, (Below.refl _ _).alloc (Nat.le_refl _) _⟩
  cases u
  case false =>
    clear hv
    go_enter Try.func116, Try.ntmps116
    go_wp2_with fail
    refine (h1.out _).mono ?_
    rintro e w' ⟨rfl, rfl⟩
    go_wp2_with fail
    refine (h2.out _).mono ?_
    rintro e w' ⟨rfl, rfl⟩
    go_wp2_with fail
    go_ret
    exact ⟨rfl, (Below.refl _ _).alloc (Nat.le_refl _) _⟩
  cases v
  all_goals
    go_enter Try.func116, Try.ntmps116
    go_wp2_with fail
    refine (h1.out _).mono ?_
    rintro e w' ⟨rfl, rfl⟩
    go_wp2_with fail
    refine (h2.out _).mono ?_
    rintro e w' ⟨rfl, rfl⟩
    go_wp2_with fail
    go_ret
    exact ⟨rfl, (Below.refl _ _).alloc (Nat.le_refl _) _⟩
set_option maxRecDepth 100000 in
set_option maxHeartbeats 2000000 in
theorem spec_SidesOk_c (k : Int) (l r : List UInt8) (w : World) (hl : l.length ≤ 1048576) (hr : r.length ≤ 1048576) : Calls Try.prog 121 #[.int .i64 k, .agg #[.string ⟨l.toArray⟩, .string ⟨r.toArray⟩]] w fun e w' => e = .returned (.bool (M.SidesOk k ⟨l, r⟩)) ∧ Below w.heap.size w w' := by
  unfold M.SidesOk
  have h1 := Lib.hid (fun W => spec_WordOk_c k l W hl)
  have h2 := Lib.hid (fun W => spec_WordOk_c k r W hr)
  generalize M.WordOk k l = x at *
  generalize M.WordOk k r = y at *
  obtain ⟨v, hv⟩ : ∃ v, v = decide ((r.length : Int) ≤ 8) := ⟨_, rfl⟩
  obtain ⟨u, hu⟩ : ∃ u, u = decide ((l.length : Int) ≤ 8) := ⟨_, rfl⟩
  simp only [← hu, ← hv]
  replace hu := hu.symm
  replace hv := hv.symm
  cases x
  case false =>
    clear hu hv
    go_enter Try.func121, Try.ntmps121
    go_wp2_with fail
    refine (h1.out _).mono ?_
    rintro e w' ⟨rfl, rfl⟩
    go_wp2_with fail
    go_ret
    exact ⟨rfl, (Below.refl _ _).alloc (Nat.le_refl _) _⟩
  cases y
  case false =>
    clear hu hv
    go_enter Try.func121, Try.ntmps121
    go_wp2_with fail
    refine (h1.out _).mono ?_
    rintro e w' ⟨rfl, rfl⟩
    go_wp2_with fail
    refine (h2.out _).mono ?_
    rintro e w' ⟨rfl, rfl⟩
    go_wp2_with fail
    go_ret
    exact ⟨rfl, (Below.refl _ _).alloc (Nat.le_refl _) _⟩
  cases u
  case false =>
    clear hv
    go_enter Try.func121, Try.ntmps121
    go_wp2_with fail
    refine (h1.out _).mono ?_
    rintro e w' ⟨rfl, rfl⟩
    go_wp2_with fail
    refine (h2.out _).mono ?_
    rintro e w' ⟨rfl, rfl⟩
    go_wp2_with fail
    go_ret
    exact ⟨rfl, (Below.refl _ _).alloc (Nat.le_refl _) _⟩
  cases v
  all_goals
    go_enter Try.func121, Try.ntmps121
    go_wp2_with fail
    refine (h1.out _).mono ?_
    rintro e w' ⟨rfl, rfl⟩
    go_wp2_with fail
    refine (h2.out _).mono ?_
    rintro e w' ⟨rfl, rfl⟩
    go_wp2_with fail
    go_ret
    exact ⟨rfl, (Below.refl _ _).alloc (Nat.le_refl _) _⟩


set_option maxRecDepth 100000 in
set_option maxHeartbeats 2000000 in
theorem oriented_c (l r : List UInt8) (w : World) (hl : l.length ≤ 1048576) (hr : r.length ≤ 1048576) : Calls Try.prog 64 #[.agg #[.string ⟨l.toArray⟩, .string ⟨r.toArray⟩]] w fun e w' => e = .returned (.agg #[.string ⟨(M.oriented ⟨l, r⟩).left.toArray⟩, .string ⟨(M.oriented ⟨l, r⟩).right.toArray⟩]) ∧ Below w.heap.size w w' := by
  unfold M.oriented
  simp only
  have h1 := Lib.hid (fun W => impl_IsLess_c l r W (by omega) (by omega))
  generalize M.IsLess l r = x at *
  cases x
  case false =>
    go_enter Try.func64, Try.ntmps64
    go_wp2_with fail
    refine (h1.out _).mono ?_
    rintro e w1 ⟨rfl, hb⟩
    have c1 : w1.cell? ⟨w.heap.size, 0, none⟩ = some (.string ⟨l.toArray⟩) := cellKeep hb (by simp [go_sem])
    have c2 : w1.cell? ⟨w.heap.size, 1, none⟩ = some (.string ⟨r.toArray⟩) := cellKeep hb (by simp [go_sem])
    have d1 : w1.cell? ⟨w.heap.size + 1, 0, none⟩ = some (.string ⟨#[]⟩) := cellKeep hb (by simp [go_sem])
    have d2 : w1.cell? ⟨w.heap.size + 1, 1, none⟩ = some (.string ⟨#[]⟩) := cellKeep hb (by simp [go_sem])
    have f1 : w1.frozen? ⟨w.heap.size + 1, 0, none⟩ = false := ((bcell hb).2 _ _ (by simp)).trans (by simp [go_sem])
    have f2 : w1.frozen? ⟨w.heap.size + 1, 1, none⟩ = false := ((bcell hb).2 _ _ (by simp)).trans (by simp [go_sem])
    have hb' := Lib.hid (below_alloc2 hb)
    clear hb
    go_wp2_with fail
    refine bodyPost_ret (v := .agg #[.string ⟨l.toArray⟩, .string ⟨r.toArray⟩]) ?_ rfl ⟨rfl, ?_⟩
    · simp [results, Try.results64, go_sem, cell_set_ne, cell_set_eq _ d1, cell_two d2]
    · exact (hb'.out.setCell (by simp) _).setCell (by simp) _
  case true =>
    go_enter Try.func64, Try.ntmps64
    go_wp2_with fail
    refine (h1.out _).mono ?_
    rintro e w1 ⟨rfl, hb⟩
    have c1 : w1.cell? ⟨w.heap.size, 0, none⟩ = some (.string ⟨l.toArray⟩) := cellKeep hb (by simp [go_sem])
    have c2 : w1.cell? ⟨w.heap.size, 1, none⟩ = some (.string ⟨r.toArray⟩) := cellKeep hb (by simp [go_sem])
    have d1 : w1.cell? ⟨w.heap.size + 1, 0, none⟩ = some (.string ⟨#[]⟩) := cellKeep hb (by simp [go_sem])
    have d2 : w1.cell? ⟨w.heap.size + 1, 1, none⟩ = some (.string ⟨#[]⟩) := cellKeep hb (by simp [go_sem])
    have f1 : w1.frozen? ⟨w.heap.size + 1, 0, none⟩ = false := ((bcell hb).2 _ _ (by simp)).trans (by simp [go_sem])
    have f2 : w1.frozen? ⟨w.heap.size + 1, 1, none⟩ = false := ((bcell hb).2 _ _ (by simp)).trans (by simp [go_sem])
    have hb' := Lib.hid (below_alloc2 hb)
    clear hb
    go_wp2_with fail
    refine bodyPost_ret (v := .agg #[.string ⟨r.toArray⟩, .string ⟨l.toArray⟩]) ?_ rfl ⟨rfl, ?_⟩
    · simp [results, Try.results64, go_sem, cell_set_ne, cell_set_eq _ d1, cell_two d2]
    · exact (hb'.out.setCell (by simp) _).setCell (by simp) _
set_option maxRecDepth 100000 in
set_option maxHeartbeats 2000000 in
theorem spec_OrientRule_c (k : Int) (l r : List UInt8) (w : World) (hl : l.length ≤ 1048576) (hr : r.length ≤ 1048576) : Calls Try.prog 61 #[.int .i64 k, .agg #[.string ⟨l.toArray⟩, .string ⟨r.toArray⟩]] w fun e w' => e = .returned (.tuple #[.agg #[.string ⟨(M.OrientRule k ⟨l, r⟩).1.left.toArray⟩, .string ⟨(M.OrientRule k ⟨l, r⟩).1.right.toArray⟩], .bool (M.OrientRule k ⟨l, r⟩).2]) ∧ Below w.heap.size w w' := by
  unfold M.OrientRule
  simp only
  have h1 := Lib.hid (fun W => spec_SidesOk_c k l r W hl hr)
  generalize M.SidesOk k ⟨l, r⟩ = x at *
  cases x
  case false =>
    go_enter Try.func61, Try.ntmps61
    go_wp2_with fail
    refine (h1.out _).mono ?_
    rintro e w1 ⟨rfl, hb⟩
    have s1 : w.heap.size + 2 ≤ w1.heap.size := by have := hb.size; simp at this; omega
    have c11 : w1.cell? ⟨w.heap.size, 0, none⟩ = some (.string ⟨l.toArray⟩) := cellKeep hb (by simp [go_sem])
    have c21 : w1.cell? ⟨w.heap.size, 1, none⟩ = some (.string ⟨r.toArray⟩) := cellKeep hb (by simp [go_sem])
    have d11 : w1.cell? ⟨w.heap.size + 1, 0, none⟩ = some (.string ⟨#[]⟩) := cellKeep hb (by simp [go_sem])
    have d21 : w1.cell? ⟨w.heap.size + 1, 1, none⟩ = some (.string ⟨#[]⟩) := cellKeep hb (by simp [go_sem])
    have f11 : w1.frozen? ⟨w.heap.size + 1, 0, none⟩ = false := ((bcell hb).2 _ _ (by simp)).trans (by simp [go_sem])
    have f21 : w1.frozen? ⟨w.heap.size + 1, 1, none⟩ = false := ((bcell hb).2 _ _ (by simp)).trans (by simp [go_sem])
    have hb1 := Lib.hid (below_alloc2 hb)
    clear hb
    go_wp2_with fail
    refine bodyPost_ret (v := .tuple #[.agg #[.string ⟨#[]⟩, .string ⟨#[]⟩], .bool false]) ?_ rfl ⟨rfl, ?_⟩
    · simp [results, Try.results61, go_sem, cell_set_ne, cell_set_eq _ d11, cell_two d21]
    · exact (hb1.out.setCell (by simp) _).setCell (by simp) _
  by_cases he : l = r
  case pos =>
    rw [if_neg (by simp), if_pos he]
    subst he
    go_enter Try.func61, Try.ntmps61
    go_wp2_with fail
    refine (h1.out _).mono ?_
    rintro e w1 ⟨rfl, hb⟩
    have s1 : w.heap.size + 2 ≤ w1.heap.size := by have := hb.size; simp at this; omega
    have c11 : w1.cell? ⟨w.heap.size, 0, none⟩ = some (.string ⟨l.toArray⟩) := cellKeep hb (by simp [go_sem])
    have c21 : w1.cell? ⟨w.heap.size, 1, none⟩ = some (.string ⟨l.toArray⟩) := cellKeep hb (by simp [go_sem])
    have d11 : w1.cell? ⟨w.heap.size + 1, 0, none⟩ = some (.string ⟨#[]⟩) := cellKeep hb (by simp [go_sem])
    have d21 : w1.cell? ⟨w.heap.size + 1, 1, none⟩ = some (.string ⟨#[]⟩) := cellKeep hb (by simp [go_sem])
    have f11 : w1.frozen? ⟨w.heap.size + 1, 0, none⟩ = false := ((bcell hb).2 _ _ (by simp)).trans (by simp [go_sem])
    have f21 : w1.frozen? ⟨w.heap.size + 1, 1, none⟩ = false := ((bcell hb).2 _ _ (by simp)).trans (by simp [go_sem])
    have hb1 := Lib.hid (below_alloc2 hb)
    clear hb
    go_wp2_with fail
    refine bodyPost_ret (v := .tuple #[.agg #[.string ⟨#[]⟩, .string ⟨#[]⟩], .bool false]) ?_ rfl ⟨rfl, ?_⟩
    · simp [results, Try.results61, go_sem, cell_set_ne, cell_set_eq _ d11, cell_two d21]
    · exact (hb1.out.setCell (by simp) _).setCell (by simp) _
  case neg =>
    rw [if_neg (by simp), if_neg he]
    have he' : (l == r) = false := by simpa using he
    have h2 := Lib.hid (fun W => toBelow1 (spec_IsLess_c l r W (by omega) (by omega)))
    clear he
    unfold M.oriented
    simp only
    generalize M.IsLess l r = z at *
    cases z
    case false =>
      go_enter Try.func61, Try.ntmps61
      go_wp2_with fail
      refine (h1.out _).mono ?_
      rintro e w1 ⟨rfl, hb⟩
      have s1 : w.heap.size + 2 ≤ w1.heap.size := by have := hb.size; simp at this; omega
      have c11 : w1.cell? ⟨w.heap.size, 0, none⟩ = some (.string ⟨l.toArray⟩) := cellKeep hb (by simp [go_sem])
      have c21 : w1.cell? ⟨w.heap.size, 1, none⟩ = some (.string ⟨r.toArray⟩) := cellKeep hb (by simp [go_sem])
      have d11 : w1.cell? ⟨w.heap.size + 1, 0, none⟩ = some (.string ⟨#[]⟩) := cellKeep hb (by simp [go_sem])
      have d21 : w1.cell? ⟨w.heap.size + 1, 1, none⟩ = some (.string ⟨#[]⟩) := cellKeep hb (by simp [go_sem])
      have f11 : w1.frozen? ⟨w.heap.size + 1, 0, none⟩ = false := ((bcell hb).2 _ _ (by simp)).trans (by simp [go_sem])
      have f21 : w1.frozen? ⟨w.heap.size + 1, 1, none⟩ = false := ((bcell hb).2 _ _ (by simp)).trans (by simp [go_sem])
      have hb1 := Lib.hid (below_alloc2 hb)
      clear hb
      go_wp2_with fail
      refine (h2.out _).mono ?_
      rintro e w2 ⟨rfl, hb⟩
      have s2 : w.heap.size + 2 ≤ w2.heap.size := Nat.le_trans s1 hb.size
      have c12 : w2.cell? ⟨w.heap.size, 0, none⟩ = some (.string ⟨l.toArray⟩) := cellKeep hb c11
      have c22 : w2.cell? ⟨w.heap.size, 1, none⟩ = some (.string ⟨r.toArray⟩) := cellKeep hb c21
      have d12 : w2.cell? ⟨w.heap.size + 1, 0, none⟩ = some (.string ⟨#[]⟩) := cellKeep hb d11
      have d22 : w2.cell? ⟨w.heap.size + 1, 1, none⟩ = some (.string ⟨#[]⟩) := cellKeep hb d21
      have f12 : w2.frozen? ⟨w.heap.size + 1, 0, none⟩ = false := ((bcell hb).2 _ _ (by omega)).trans f11
      have f22 : w2.frozen? ⟨w.heap.size + 1, 1, none⟩ = false := ((bcell hb).2 _ _ (by omega)).trans f21
      have hb2 := Lib.hid (hb1.out.trans (hb.mono hb1.out.size))
      clear hb
      go_wp2_with fail
      refine bodyPost_ret (v := .tuple #[.agg #[.string ⟨l.toArray⟩, .string ⟨r.toArray⟩], .bool true]) ?_ rfl ⟨rfl, ?_⟩
      · simp [results, Try.results61, go_sem, cell_set_ne, cell_set_eq _ d12, cell_two d22]
      · exact (hb2.out.setCell (by simp) _).setCell (by simp) _
    case true =>
      go_enter Try.func61, Try.ntmps61
      go_wp2_with fail
      refine (h1.out _).mono ?_
      rintro e w1 ⟨rfl, hb⟩
      have s1 : w.heap.size + 2 ≤ w1.heap.size := by have := hb.size; simp at this; omega
      have c11 : w1.cell? ⟨w.heap.size, 0, none⟩ = some (.string ⟨l.toArray⟩) := cellKeep hb (by simp [go_sem])
      have c21 : w1.cell? ⟨w.heap.size, 1, none⟩ = some (.string ⟨r.toArray⟩) := cellKeep hb (by simp [go_sem])
      have d11 : w1.cell? ⟨w.heap.size + 1, 0, none⟩ = some (.string ⟨#[]⟩) := cellKeep hb (by simp [go_sem])
      have d21 : w1.cell? ⟨w.heap.size + 1, 1, none⟩ = some (.string ⟨#[]⟩) := cellKeep hb (by simp [go_sem])
      have f11 : w1.frozen? ⟨w.heap.size + 1, 0, none⟩ = false := ((bcell hb).2 _ _ (by simp)).trans (by simp [go_sem])
      have f21 : w1.frozen? ⟨w.heap.size + 1, 1, none⟩ = false := ((bcell hb).2 _ _ (by simp)).trans (by simp [go_sem])
      have hb1 := Lib.hid (below_alloc2 hb)
      clear hb
      go_wp2_with fail
      refine (h2.out _).mono ?_
      rintro e w2 ⟨rfl, hb⟩
      have s2 : w.heap.size + 2 ≤ w2.heap.size := Nat.le_trans s1 hb.size
      have c12 : w2.cell? ⟨w.heap.size, 0, none⟩ = some (.string ⟨l.toArray⟩) := cellKeep hb c11
      have c22 : w2.cell? ⟨w.heap.size, 1, none⟩ = some (.string ⟨r.toArray⟩) := cellKeep hb c21
      have d12 : w2.cell? ⟨w.heap.size + 1, 0, none⟩ = some (.string ⟨#[]⟩) := cellKeep hb d11
      have d22 : w2.cell? ⟨w.heap.size + 1, 1, none⟩ = some (.string ⟨#[]⟩) := cellKeep hb d21
      have f12 : w2.frozen? ⟨w.heap.size + 1, 0, none⟩ = false := ((bcell hb).2 _ _ (by omega)).trans f11
      have f22 : w2.frozen? ⟨w.heap.size + 1, 1, none⟩ = false := ((bcell hb).2 _ _ (by omega)).trans f21
      have hb2 := Lib.hid (hb1.out.trans (hb.mono hb1.out.size))
      clear hb
      go_wp2_with fail
      refine bodyPost_ret (v := .tuple #[.agg #[.string ⟨r.toArray⟩, .string ⟨l.toArray⟩], .bool true]) ?_ rfl ⟨rfl, ?_⟩
      · simp [results, Try.results61, go_sem, cell_set_ne, cell_set_eq _ d12, cell_two d22]
      · exact (hb2.out.setCell (by simp) _).setCell (by simp) _
set_option maxRecDepth 100000 in
set_option maxHeartbeats 2000000 in
theorem eqRule_c (l r l' r' : List UInt8) (w : World) : Calls Try.prog 110 #[.agg #[.string ⟨l.toArray⟩, .string ⟨r.toArray⟩], .agg #[.string ⟨l'.toArray⟩, .string ⟨r'.toArray⟩]] w fun e w' => e = .returned (.bool (decide (l = l' ∧ r = r'))) ∧ Below w.heap.size w w' := by
  by_cases h1 : l = l'
  case neg =>
    have h1' : (l == l') = false := by simpa using h1
    rw [decide_eq_false (fun h => h1 h.1)]
    clear h1
    go_enter Try.func110, Try.ntmps110
    go_wp2
    go_ret
    exact ⟨rfl, ((Below.refl _ _).alloc (Nat.le_refl _) _).alloc (by simp) _⟩
  subst h1
  by_cases h2 : r = r'
  case neg =>
    have h1' : (r == r') = false := by simpa using h2
    rw [decide_eq_false (fun h => h2 h.2)]
    clear h2
    go_enter Try.func110, Try.ntmps110
    go_wp2
    go_ret
    exact ⟨rfl, ((Below.refl _ _).alloc (Nat.le_refl _) _).alloc (by simp) _⟩
  subst h2
  rw [decide_eq_true ⟨rfl, rfl⟩]
  go_enter Try.func110, Try.ntmps110
  go_wp2
  go_ret
  exact ⟨rfl, ((Below.refl _ _).alloc (Nat.le_refl _) _).alloc (by simp) _⟩
theorem eqRule_t (l r : List UInt8) (w : World) : Calls Try.prog 110 #[.agg #[.string ⟨l.toArray⟩, .string ⟨r.toArray⟩], .agg #[.string ⟨l.toArray⟩, .string ⟨r.toArray⟩]] w fun e w' => e = .returned (.bool true) ∧ Below w.heap.size w w' :=
  (eqRule_c l r l r w).mono fun _ _ ⟨he, hb⟩ => ⟨he.trans (ret_bool (decide_eq_true ⟨rfl, rfl⟩)), hb⟩

end Go.Proofs.Ytlohpphmamapeaa
