/-
  Contracts of the value of a word.
  Conditions: tables of at most 40 elements; words of at most 2^20 bytes.
-/
import Derived.Test.YtoijojdegohknaaImg
import Derived.Test.YtoijojdegohknaaWordOk
namespace Go.Proofs.Ytoijojdegohknaa
open Go.RowKit
set_option linter.unusedVariables false

def M.valFrom (n : Nat) (xs ys : List Int) (x : Int) (l : List UInt8) : Int := l.foldl (fun x c => M.tI n xs x (M.tAt ys (c.toNat - 97))) x
theorem valFrom_drop {n : Nat} {xs ys : List Int} {x : Int} {l : List UInt8} {i : Nat} (h : i < l.length) : M.valFrom n xs ys x (l.drop i) = M.valFrom n xs ys (M.tI n xs x (M.tAt ys (l[i].toNat - 97))) (l.drop (i + 1)) := by
  unfold M.valFrom; rw [List.drop_eq_getElem_cons h, List.foldl_cons]
theorem letter_at {k : Int} {l : List UInt8} (h : M.hasLetters k l = true) {i : Nat} (hi : i < l.length) : (97 : Int) ≤ (l[i].toNat : Int) ∧ (l[i].toNat : Int) ≤ 97 + k - 1 := by
  have := List.all_eq_true.1 h l[i] (List.getElem_mem hi)
  simpa [M.isLetter] using this
theorem held3 {a w w1 : World} {b1 o1 b2 o2 b3 o3 : Nat} {u1 u2 u3 : Value} (h : w.cell? ⟨b1, o1, none⟩ = some u1 ∧ w.cell? ⟨b2, o2, none⟩ = some u2 ∧ w.cell? ⟨b3, o3, none⟩ = some u3 ∧ Below a.heap.size a w) (hb : Below w.heap.size w w1) :
    w1.cell? ⟨b1, o1, none⟩ = some u1 ∧ w1.cell? ⟨b2, o2, none⟩ = some u2 ∧ w1.cell? ⟨b3, o3, none⟩ = some u3 ∧ Below a.heap.size a w1 := ⟨cellKeep hb h.1, cellKeep hb h.2.1, cellKeep hb h.2.2.1, below_then h.2.2.2 hb⟩
theorem held3_below {a w : World} {p1 p2 p3 : Prop} (h : p1 ∧ p2 ∧ p3 ∧ Below a.heap.size a w) : Below a.heap.size a w := h.2.2.2

end Go.Proofs.Ytoijojdegohknaa
