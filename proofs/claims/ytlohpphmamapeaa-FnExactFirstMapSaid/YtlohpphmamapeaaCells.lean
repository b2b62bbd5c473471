/-
  The cells of slices of structs.
  Conditions: none; this text names no law.
-/
import Derived.Test.YtlohpphmamapeaaMem
namespace Go.Proofs.Ytlohpphmamapeaa
open Go.RowKit
set_option linter.unusedVariables false

/-- The cells of a slice of rules. -/
def rule2 (r : M.Rule) : List Value := [.string ⟨r.left.toArray⟩, .string ⟨r.right.toArray⟩]
def ruls (rs : List M.Rule) : List Value := rs.flatMap rule2
theorem ruls_len : ∀ rs : List M.Rule, (ruls rs).length = rs.length * 2
  | [] => rfl
  | r :: rs => by have := ruls_len rs; simp [ruls, rule2] at this ⊢; omega
theorem ruls_add (a b : List M.Rule) : ruls (a ++ b) = ruls a ++ ruls b := by simp [ruls]
theorem ruls_at : ∀ {rs : List M.Rule} {k : Nat} (h : k < rs.length), (ruls rs)[k * 2]? = some (.string ⟨rs[k].left.toArray⟩) ∧ (ruls rs)[k * 2 + 1]? = some (.string ⟨rs[k].right.toArray⟩)
  | r :: rs, 0, h => by simp [ruls, rule2]
  | r :: rs, k + 1, h => by
    have ih := ruls_at (rs := rs) (k := k) (by simpa using h)
    have e : (k + 1) * 2 = k * 2 + 2 := by omega
    rw [e]
    simpa [ruls, rule2] using ih
theorem Rd.ruleAt {w : World} {A : Option Addr} {n : Nat} {rs : List M.Rule} (h : Rd w 2 A n (ruls rs)) {k : Nat} (hk : k < n) :
    ∃ b o, A = some ⟨b, o, none⟩ ∧ ∃ hz : k < rs.length, w.cell? ⟨b, o + k * 2, none⟩ = some (.string ⟨rs[k].left.toArray⟩) ∧ w.cell? ⟨b, o + k * 2 + 1, none⟩ = some (.string ⟨rs[k].right.toArray⟩) := by
  obtain ⟨b, o, e, hc⟩ := h.2 (by omega)
  have hl : k < rs.length := by have := h.1; rw [ruls_len] at this; omega
  exact ⟨b, o, e, hl, hc _ _ (ruls_at hl).1, by rw [Nat.add_assoc]; exact hc _ _ (ruls_at hl).2⟩

end Go.Proofs.Ytlohpphmamapeaa
