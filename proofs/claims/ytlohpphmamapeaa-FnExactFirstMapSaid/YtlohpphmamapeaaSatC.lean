/-
  Contracts of SatisfiesRules.
  Conditions: at most 2^20 entries.
-/
import Derived.Test.YtlohpphmamapeaaSatR
namespace Go.Proofs.Ytlohpphmamapeaa
open Go.RowKit
set_option linter.unusedVariables false

def M.SatisfiesRules (k : Int) (rs : List M.Rule) (n : Int) (xs ys : List Int) : Bool := M.RulesOk k rs && (M.ImagesOk n xs ys && (decide ((ys.length : Int) = k) && !rs.any (M.misfit n.toNat xs ys)))
theorem fit_of {k : Int} {rs : List M.Rule} (h : M.RulesOk k rs = true) (hs : ∀ r ∈ rs, r.left.length ≤ 1048576 ∧ r.right.length ≤ 1048576) : ∀ r ∈ rs, M.Fit k r := by
  intro r hr
  unfold M.RulesOk at h
  have h2 := (Bool.and_eq_true_iff.1 (Bool.and_eq_true_iff.1 h).2).2
  have h3 : rs.any (M.ruleBad k) = false := by simpa using h2
  have h4 := List.any_eq_false.1 h3 r hr
  unfold M.ruleBad at h4
  have h5 : M.SidesOk k r = true := by
    cases hq : M.SidesOk k r
    · rw [hq] at h4; exact absurd rfl h4
    · rfl
  unfold M.SidesOk at h5
  simp only [Bool.and_eq_true] at h5
  exact ⟨⟨word_of h5.1.1.1, word_of h5.1.1.2⟩, hs r hr⟩

end Go.Proofs.Ytlohpphmamapeaa
