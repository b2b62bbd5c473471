/-
  Contracts of ValueOf.
  Conditions: at most 2^20 entries, words of at most 2^20 bytes.
-/
import Derived.Test.YtlohpphmamapeaaVal
namespace Go.Proofs.Ytlohpphmamapeaa
open Go.RowKit
set_option linter.unusedVariables false

def M.ValueOf (k : Int) (xs ys : List Int) (l : List UInt8) : Int × Bool := if M.ImagesOk k xs ys && M.WordOk ys.length l then (M.valFrom k.toNat xs ys 0 l, true) else (0, false)
theorem value_no1 {k : Int} {xs ys : List Int} {l : List UInt8} (h : M.ImagesOk k xs ys = false) : M.ValueOf k xs ys l = (0, false) := by unfold M.ValueOf; rw [h]; rfl
theorem value_no2 {k : Int} {xs ys : List Int} {l : List UInt8} (h : M.WordOk ys.length l = false) : M.ValueOf k xs ys l = (0, false) := by unfold M.ValueOf; rw [h, Bool.and_false]; rfl
theorem value_yes {k : Int} {xs ys : List Int} {l : List UInt8} (h : M.ImagesOk k xs ys = true) (h' : M.WordOk ys.length l = true) : M.ValueOf k xs ys l = (M.valFrom k.toNat xs ys 0 l, true) := by unfold M.ValueOf; rw [h, h']; rfl
theorem images_of {k : Int} {xs ys : List Int} (h : M.ImagesOk k xs ys = true) : ∃ n : Nat, k = n ∧ 1 ≤ n ∧ n ≤ 40 ∧ xs.length = n * n ∧ M.InP n xs ∧ ys.length ≤ 4 ∧ M.InP n ys := by
  unfold M.ImagesOk at h
  obtain ⟨h1, h2⟩ := Bool.and_eq_true_iff.1 h
  obtain ⟨h2, h3⟩ := Bool.and_eq_true_iff.1 h2
  obtain ⟨hk, hlen, hin, _⟩ := (of_decide_eq_true h1 : M.TableQ k xs)
  obtain ⟨n, rfl⟩ : ∃ n : Nat, k = n := ⟨k.toNat, by omega⟩
  rw [M.inP_iff] at h3
  refine ⟨n, rfl, by omega, by omega, by simpa using hlen, by simpa using hin, ?_, ?_⟩
  · unfold M.within at h2; simp at h2; omega
  · by_cases hp : M.InP n ys
    · exact hp
    · rw [decide_eq_false hp] at h3; cases h3
theorem word_of {k : Int} {l : List UInt8} (h : M.WordOk k l = true) : M.hasLetters k l = true := by
  unfold M.WordOk at h
  exact (Bool.and_eq_true_iff.1 (Bool.and_eq_true_iff.1 h).2).2

end Go.Proofs.Ytlohpphmamapeaa
