/-
  What the functions compute, in plain Lean: letters counted, zeros added, powers and roots of words.
  Conditions: none; this text names no law and no program.
-/
import Derived.Test.YtkbogjoodamcfaaModel
namespace Go.Proofs.Ytkbogjoodamcfaa.M

def CountLetter (w : List UInt8) (x : Int) : Int := if within x 0 3 = true then ((w.count (letter x.toNat) : Nat) : Int) else 0
def PadZeros (s : List UInt8) (n : Int) : List UInt8 := if n > 2000 then s else List.replicate (n - s.length).toNat 48 ++ s

/-- A word several times. -/
def rep (w : List UInt8) : Nat → List UInt8
  | 0 => []
  | n + 1 => w ++ rep w n
theorem rep_succ (w : List UInt8) : ∀ n, rep w (n + 1) = rep w n ++ w
  | 0 => by simp [rep]
  | n + 1 => by
    show w ++ rep w (n + 1) = (w ++ rep w n) ++ w
    rw [rep_succ w n, List.append_assoc]
theorem rep_len (w : List UInt8) : ∀ n, (rep w n).length = n * w.length
  | 0 => by simp [rep]
  | n + 1 => by rw [rep, List.length_append, rep_len w n, Nat.succ_mul]; omega
theorem rep_nil : ∀ n, rep [] n = []
  | 0 => rfl
  | n + 1 => by rw [rep, rep_nil n]; rfl
/-- Whether a word can be written so many times. -/
def powOk (w : List UInt8) (n : Int) : Bool := decide (0 ≤ n) && (decide (w.length = 0) || decide (n ≤ 16 / (w.length : Int)))
def PowerWord (w : List UInt8) (n : Int) : List UInt8 × Bool := if powOk w n then (rep w (if w.length = 0 then 0 else n.toNat), true) else ([], false)
theorem power_no {w : List UInt8} {n : Int} (h : powOk w n = false) : PowerWord w n = ([], false) := by unfold PowerWord; rw [if_neg (by simp [h])]
theorem power_yes {w : List UInt8} {n : Int} (h : powOk w n = true) (hw : 0 < w.length) : PowerWord w n = (rep w n.toNat, true) := by unfold PowerWord; rw [if_pos h, if_neg (by omega)]
theorem power_nil {n : Int} (h : 0 ≤ n) : PowerWord [] n = ([], true) := by unfold PowerWord powOk; simp [h, rep]
theorem power_bound {w : List UInt8} {n : Nat} (hw : 0 < w.length) (h : (n : Int) ≤ 16 / (w.length : Int)) : n * w.length ≤ 16 := by
  have h1 : (n : Int) * w.length ≤ 16 / (w.length : Int) * w.length := Int.mul_le_mul_of_nonneg_right h (by omega)
  have h2 := Int.ediv_mul_le 16 (show (w.length : Int) ≠ 0 by omega)
  have : (n : Int) * w.length ≤ 16 := by omega
  exact_mod_cast this

/-- Whether the first n letters of a word, as often as they fit, are the word. -/
def isRoot (w : List UInt8) (n : Nat) : Bool := decide (rep (w.take n) (w.length / n) = w)
def rootFrom (w : List UInt8) : Nat → Nat → Nat
  | 0, n => n
  | f + 1, n => if isRoot w n then n else rootFrom w f (n + 1)
/-- The length of the root of a word that is not empty. -/
def rootLen (w : List UInt8) : Nat := rootFrom w (w.length - 1) 1
theorem isRoot_all (w : List UInt8) (h : 0 < w.length) : isRoot w w.length = true := by
  unfold isRoot
  rw [Nat.div_self h, List.take_of_length_le (Nat.le_refl _)]
  simp [rep]
theorem root_step {w : List UInt8} {n : Nat} (h1 : 1 ≤ n) (h : n ≤ w.length) (hr : rootFrom w (w.length - n) n = rootLen w) (hn : isRoot w n = false) : n < w.length ∧ rootFrom w (w.length - (n + 1)) (n + 1) = rootLen w := by
  have hlt : n < w.length := by
    rcases Nat.lt_or_ge n w.length with h' | h'
    · exact h'
    · have : n = w.length := by omega
      rw [this, isRoot_all w (by omega)] at hn
      cases hn
  refine ⟨hlt, ?_⟩
  rw [← hr]
  obtain ⟨f, hf⟩ : ∃ f, w.length - n = f + 1 := ⟨w.length - n - 1, by omega⟩
  rw [hf, rootFrom, hn]
  simp only [Bool.false_eq_true, if_false]
  congr 1
  omega
theorem root_stop {w : List UInt8} {n : Nat} (hr : rootFrom w (w.length - n) n = rootLen w) (hn : isRoot w n = true) : rootLen w = n := by
  rw [← hr]
  cases w.length - n with
  | zero => rfl
  | succ f => rw [rootFrom, if_pos hn]
/-- A root's length divides the word's. -/
theorem root_dvd {w : List UInt8} {n : Nat} (hn : isRoot w n = true) (hl : n ≤ w.length) : w.length % n = 0 := by
  have h := congrArg List.length (of_decide_eq_true hn)
  rw [rep_len, List.length_take, Nat.min_eq_left hl] at h
  have := Nat.div_add_mod w.length n
  rw [Nat.mul_comm] at this
  omega
theorem root_rest {w : List UInt8} {n : Nat} (h : w.length % n ≠ 0) (hl : n ≤ w.length) : isRoot w n = false := by
  cases hr : isRoot w n with
  | false => rfl
  | true => exact absurd (root_dvd hr hl) h
def RootOf (w : List UInt8) : List UInt8 × Int := if 1 ≤ w.length ∧ w.length ≤ 16 then (w.take (rootLen w), ((w.length / rootLen w : Nat) : Int)) else ([], 0)

end Go.Proofs.Ytkbogjoodamcfaa.M
