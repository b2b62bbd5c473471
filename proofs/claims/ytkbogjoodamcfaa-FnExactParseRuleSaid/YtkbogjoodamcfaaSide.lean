/-
  Contracts of SidesOk, OrientRule and of equality of rules.
  Conditions: lengths of at most 2^20.
-/
import Derived.Test.YtkbogjoodamcfaaWordOk
import Derived.Test.YtkbogjoodamcfaaRuleC
import Derived.Test.YtkbogjoodamcfaaLess
import Derived.Test.YtkbogjoodamcfaaModRule
import Derived.Test.YtkbogjoodamcfaaToB
import Derived.Test.YtkbogjoodamcfaaOwn
namespace Go.Proofs.Ytkbogjoodamcfaa
open Go.RowKit
set_option linter.unusedVariables false

theorem cell_two {w : World} {b : Nat} {u : Value} (d : w.cell? ⟨b, 1, none⟩ = some u) (v1 v2 : Value) : ((w.setCell ⟨b, 0, none⟩ v1).setCell ⟨b, 1, none⟩ v2).cell? ⟨b, 1, none⟩ = some v2 :=
  cell_set_eq v2 ((cell_set_ne v1 (Or.inr (by decide))).trans d)



set_option maxRecDepth 100000 in
set_option maxHeartbeats 2000000 in
theorem eqRule_c (l r l' r' : List UInt8) (w : World) : Calls Try.prog 17 #[.agg #[.string ⟨l.toArray⟩, .string ⟨r.toArray⟩], .agg #[.string ⟨l'.toArray⟩, .string ⟨r'.toArray⟩]] w fun e w' => e = .returned (.bool (decide (l = l' ∧ r = r'))) ∧ Below w.heap.size w w' := by
  by_cases h1 : l = l'
  case neg =>
    have h1' : (l == l') = false := by simpa using h1
    rw [decide_eq_false (fun h => h1 h.1)]
    clear h1
    go_enter Try.func17, Try.ntmps17
    go_wp2
    go_ret
    exact ⟨rfl, ((Below.refl _ _).alloc (Nat.le_refl _) _).alloc (by simp) _⟩
  subst h1
  by_cases h2 : r = r'
  case neg =>
    have h1' : (r == r') = false := by simpa using h2
    rw [decide_eq_false (fun h => h2 h.2)]
    clear h2
    go_enter Try.func17, Try.ntmps17
    go_wp2
    go_ret
    exact ⟨rfl, ((Below.refl _ _).alloc (Nat.le_refl _) _).alloc (by simp) _⟩
  subst h2
  rw [decide_eq_true ⟨rfl, rfl⟩]
  go_enter Try.func17, Try.ntmps17
  go_wp2
  go_ret
  exact ⟨rfl, ((Below.refl _ _).alloc (Nat.le_refl _) _).alloc (by simp) _⟩
theorem eqRule_t (l r : List UInt8) (w : World) : Calls Try.prog 17 #[.agg #[.string ⟨l.toArray⟩, .string ⟨r.toArray⟩], .agg #[.string ⟨l.toArray⟩, .string ⟨r.toArray⟩]] w fun e w' => e = .returned (.bool true) ∧ Below w.heap.size w w' :=
  (eqRule_c l r l r w).mono fun _ _ ⟨he, hb⟩ => ⟨he.trans (ret_bool (decide_eq_true ⟨rfl, rfl⟩)), hb⟩

end Go.Proofs.Ytkbogjoodamcfaa
