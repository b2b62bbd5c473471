/-
  Contracts of SidesOk, OrientRule and of equality of rules.
  Conditions: lengths of at most 2^20.
-/
import Derived.Test.YtkdccehihpgcdaaDoorWordOk
import Derived.Test.YtkdccehihpgcdaaDoorRuleC
import Derived.Test.YtkdccehihpgcdaaDoorLess
import Derived.Test.YtkdccehihpgcdaaDoorModRule
import Derived.Test.YtkdccehihpgcdaaDoorToB
import Derived.Test.YtkdccehihpgcdaaDoorOwn
namespace Go.Proofs.YtkdccehihpgcdaaDoor
open Go.RowKit
set_option linter.unusedVariables false

theorem cell_two {w : World} {b : Nat} {u : Value} (d : w.cell? ⟨b, 1, none⟩ = some u) (v1 v2 : Value) : ((w.setCell ⟨b, 0, none⟩ v1).setCell ⟨b, 1, none⟩ v2).cell? ⟨b, 1, none⟩ = some v2 :=
  cell_set_eq v2 ((cell_set_ne v1 (Or.inr (by decide))).trans d)

set_option maxRecDepth 100000 in
set_option maxHeartbeats 2000000 in
theorem impl_SidesOk_c (k : Int) (l r : List UInt8) (w : World) (hl : l.length ≤ 1048576) (hr : r.length ≤ 1048576) : Calls Tryd.prog 74 #[.int .i64 k, .agg #[.string ⟨l.toArray⟩, .string ⟨r.toArray⟩]] w fun e w' => e = .returned (.bool (M.SidesOk k ⟨l, r⟩)) ∧ Below w.heap.size w w' := by
  unfold M.SidesOk
  have h1 := Lib.hid (fun W => impl_WordOk_c k l W hl)
  have h2 := Lib.hid (fun W => impl_WordOk_c k r W hr)
  generalize M.WordOk k l = x at *
  generalize M.WordOk k r = y at *
  obtain ⟨v, hv⟩ : ∃ v, v = decide ((r.length : Int) ≤ 8) := ⟨_, rfl⟩
  obtain ⟨u, hu⟩ : ∃ u, u = decide ((l.length : Int) ≤ 8) := ⟨_, rfl⟩
  simp only [← hu, ← hv]
  replace hu := hu.symm
  replace hv := hv.symm
  cases x
  case false =>
    clear hu hv
    go_enter Tryd.func74, Tryd.ntmps74
    go_wp2_with fail
    refine (h1.out _).mono ?_
    rintro e w' ⟨rfl, rfl⟩
    go_wp2_with fail
    go_ret
    exact ⟨rfl, (Below.refl _ _).alloc (Nat.le_refl _) _⟩
  cases y
  case false =>
    clear hu hv
    go_enter Tryd.func74, Tryd.ntmps74
    go_wp2_with fail
    refine (h1.out _).mono ?_
    rintro e w' ⟨rfl, rfl⟩
    go_wp2_with fail
    refine (h2.out _).mono ?_
    rintro e w' ⟨rfl, rfl⟩
    go_wp2_with fail
    go_ret
    exact ⟨rfl, (Below.refl _ _).alloc (Nat.le_refl _) _⟩
  cases u
  case false =>
    clear hv
    go_enter Tryd.func74, Tryd.ntmps74
    go_wp2_with fail
    refine (h1.out _).mono ?_
    rintro e w' ⟨rfl, rfl⟩
    go_wp2_with fail
    refine (h2.out _).mono ?_
    rintro e w' ⟨rfl, rfl⟩
    go_wp2_with fail
    go_ret
    exact ⟨rfl, (Below.refl _ _).alloc (Nat.le_refl _) _⟩
  cases v
  all_goals
    go_enter Tryd.func74, Tryd.ntmps74
    go_wp2_with fail
    refine (h1.out _).mono ?_
    rintro e w' ⟨rfl, rfl⟩
    go_wp2_with fail
    refine (h2.out _).mono ?_
    rintro e w' ⟨rfl, rfl⟩
    go_wp2_with fail
    go_ret
    exact ⟨rfl, (Below.refl _ _).alloc (Nat.le_refl _) _⟩
set_option maxRecDepth 100000 in
set_option maxHeartbeats 2000000 in
theorem spec_SidesOk_c (k : Int) (l r : List UInt8) (w : World) (hl : l.length ≤ 1048576) (hr : r.length ≤ 1048576) : Calls Tryd.prog 68 #[.int .i64 k, .agg #[.string ⟨l.toArray⟩, .string ⟨r.toArray⟩]] w fun e w' => e = .returned (.bool (M.SidesOk k ⟨l, r⟩)) ∧ Below w.heap.size w w' := by
  unfold M.SidesOk
  have h1 := Lib.hid (fun W => spec_WordOk_c k l W hl)
  have h2 := Lib.hid (fun W => spec_WordOk_c k r W hr)
  generalize M.WordOk k l = x at *
  generalize M.WordOk k r = y at *
  obtain ⟨v, hv⟩ : ∃ v, v = decide ((r.length : Int) ≤ 8) := ⟨_, rfl⟩
  obtain ⟨u, hu⟩ : ∃ u, u = decide ((l.length : Int) ≤ 8) := ⟨_, rfl⟩
  simp only [← hu, ← hv]
  replace hu := hu.symm
  replace hv := hv.symm
  cases x
  case false =>
    clear hu hv
    go_enter Tryd.func68, Tryd.ntmps68
    go_wp2_with fail
    refine (h1.out _).mono ?_
    rintro e w' ⟨rfl, rfl⟩
    go_wp2_with fail
    go_ret
    exact ⟨rfl, (Below.refl _ _).alloc (Nat.le_refl _) _⟩
  cases y
  case false =>
    clear hu hv
    go_enter Tryd.func68, Tryd.ntmps68
    go_wp2_with fail
    refine (h1.out _).mono ?_
    rintro e w' ⟨rfl, rfl⟩
    go_wp2_with fail
    refine (h2.out _).mono ?_
    rintro e w' ⟨rfl, rfl⟩
    go_wp2_with fail
    go_ret
    exact ⟨rfl, (Below.refl _ _).alloc (Nat.le_refl _) _⟩
  cases u
  case false =>
    clear hv
    go_enter Tryd.func68, Tryd.ntmps68
    go_wp2_with fail
    refine (h1.out _).mono ?_
    rintro e w' ⟨rfl, rfl⟩
    go_wp2_with fail
    refine (h2.out _).mono ?_
    rintro e w' ⟨rfl, rfl⟩
    go_wp2_with fail
    go_ret
    exact ⟨rfl, (Below.refl _ _).alloc (Nat.le_refl _) _⟩
  cases v
  all_goals
    go_enter Tryd.func68, Tryd.ntmps68
    go_wp2_with fail
    refine (h1.out _).mono ?_
    rintro e w' ⟨rfl, rfl⟩
    go_wp2_with fail
    refine (h2.out _).mono ?_
    rintro e w' ⟨rfl, rfl⟩
    go_wp2_with fail
    go_ret
    exact ⟨rfl, (Below.refl _ _).alloc (Nat.le_refl _) _⟩


set_option maxRecDepth 100000 in
set_option maxHeartbeats 2000000 in
theorem eqRule_c (l r l' r' : List UInt8) (w : World) : Calls Tryd.prog 76 #[.agg #[.string ⟨l.toArray⟩, .string ⟨r.toArray⟩], .agg #[.string ⟨l'.toArray⟩, .string ⟨r'.toArray⟩]] w fun e w' => e = .returned (.bool (decide (l = l' ∧ r = r'))) ∧ Below w.heap.size w w' := by
  by_cases h1 : l = l'
  case neg =>
    have h1' : (l == l') = false := by simpa using h1
    rw [decide_eq_false (fun h => h1 h.1)]
    clear h1
    go_enter Tryd.func76, Tryd.ntmps76
    go_wp2
    go_ret
    exact ⟨rfl, ((Below.refl _ _).alloc (Nat.le_refl _) _).alloc (by simp) _⟩
  subst h1
  by_cases h2 : r = r'
  case neg =>
    have h1' : (r == r') = false := by simpa using h2
    rw [decide_eq_false (fun h => h2 h.2)]
    clear h2
    go_enter Tryd.func76, Tryd.ntmps76
    go_wp2
    go_ret
    exact ⟨rfl, ((Below.refl _ _).alloc (Nat.le_refl _) _).alloc (by simp) _⟩
  subst h2
  rw [decide_eq_true ⟨rfl, rfl⟩]
  go_enter Tryd.func76, Tryd.ntmps76
  go_wp2
  go_ret
  exact ⟨rfl, ((Below.refl _ _).alloc (Nat.le_refl _) _).alloc (by simp) _⟩
theorem eqRule_t (l r : List UInt8) (w : World) : Calls Tryd.prog 76 #[.agg #[.string ⟨l.toArray⟩, .string ⟨r.toArray⟩], .agg #[.string ⟨l.toArray⟩, .string ⟨r.toArray⟩]] w fun e w' => e = .returned (.bool true) ∧ Below w.heap.size w w' :=
  (eqRule_c l r l r w).mono fun _ _ ⟨he, hb⟩ => ⟨he.trans (ret_bool (decide_eq_true ⟨rfl, rfl⟩)), hb⟩

end Go.Proofs.YtkdccehihpgcdaaDoor
