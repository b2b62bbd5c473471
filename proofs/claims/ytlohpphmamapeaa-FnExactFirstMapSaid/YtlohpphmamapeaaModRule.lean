/-
  What the functions on rules compute, in plain words.
  Conditions: none; this text names no law.
-/
import Derived.Test.YtlohpphmamapeaaModel
namespace Go.Proofs.Ytlohpphmamapeaa.M
set_option linter.unusedVariables false

def SidesOk (k : Int) (r : Rule) : Bool := WordOk k r.left && WordOk k r.right && decide ((r.left.length : Int) ≤ 8) && decide ((r.right.length : Int) ≤ 8)
def oriented (r : Rule) : Rule := if IsLess r.left r.right = true then ⟨r.right, r.left⟩ else r
def OrientRule (k : Int) (r : Rule) : Rule × Bool := if SidesOk k r = false then (⟨[], []⟩, false) else if r.left = r.right then (⟨[], []⟩, false) else (oriented r, true)

/-- What szRuleS leaves. -/
def szFrom : List Rule → Int → Int
  | [], n => n
  | r :: rs, n => if szRule r n < 0 then -1 else szFrom rs (szRule r n)
def szRules (rs : List Rule) (n : Int) : Int := if n - rs.length < 0 then -1 else szFrom rs (n - rs.length)
theorem szFrom_ok : ∀ (rs : List Rule) (n : Int), 0 ≤ n → ¬ szFrom rs n < 0 → (∀ r ∈ rs, (r.left.length : Int) ≤ n ∧ (r.right.length : Int) ≤ n) ∧ szFrom rs n ≤ n
  | [], n, _, _ => ⟨by simp, by simp [szFrom]⟩
  | r :: rs, n, h0, h => by
    rw [szFrom] at h ⊢
    by_cases h1 : szRule r n < 0
    · rw [if_pos h1] at h; omega
    · rw [if_neg h1] at h ⊢
      obtain ⟨e, hb⟩ := szRule_ok h1
      obtain ⟨ha, hc⟩ := szFrom_ok rs _ (by omega) h
      refine ⟨fun x hx => ?_, by omega⟩
      rcases List.mem_cons.1 hx with rfl | hx
      · omega
      · have := ha x hx; omega
theorem szRules_ok {rs : List Rule} {n : Int} (h : ¬ szRules rs n < 0) : (rs.length : Int) ≤ n ∧ (∀ r ∈ rs, (r.left.length : Int) ≤ n ∧ (r.right.length : Int) ≤ n) ∧ szRules rs n ≤ n := by
  unfold szRules at h ⊢
  split at h
  · omega
  · rename_i h1
    rw [if_neg h1]
    obtain ⟨ha, hb⟩ := szFrom_ok rs _ (by omega) h
    exact ⟨by omega, fun r hr => by have := ha r hr; omega, by omega⟩

def longest : List Rule → Nat → Nat
  | [], n => n
  | r :: rs, n => longest rs (max n r.left.length)
theorem longest_drop {rs : List Rule} {k n : Nat} (h : k < rs.length) : longest (rs.drop k) n = longest (rs.drop (k + 1)) (max n rs[k].left.length) := by rw [List.drop_eq_getElem_cons h, longest]
def LongestSide (rs : List Rule) : Int := (longest rs 0 : Nat)

def notLess (r : Rule) : Bool := !IsLess r.right r.left
def ruleBad (k : Int) (r : Rule) : Bool := !SidesOk k r || decide (r.left = [])
def RulesOk (k : Int) (rs : List Rule) : Bool := within k 1 4 && (decide (rs.length ≤ 12) && !rs.any (ruleBad k))
def SystemOk (k : Int) (rs : List Rule) : Bool := RulesOk k rs && !rs.any notLess

end Go.Proofs.Ytlohpphmamapeaa.M
