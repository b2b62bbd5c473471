/-
  The laws' helpers on Pair and on slices of Pair: their cells; copied, compared, measured; openers.
  Conditions: at most 2^20 elements.
-/
import Derived.Test.YtlohpphmamapeaaOpen3
namespace Go.Proofs.Ytlohpphmamapeaa
open Go.ChangeShapes Go.WideShapes Go.ChangeAt Go.RowKit Go.Joins Go.Deep
set_option linter.unusedVariables false
set_option linter.unusedSimpArgs false

structure M.Pair where
  word : List UInt8
  r1 : Int
  p1 : Int
  r2 : Int
  p2 : Int
def pairCells (x : M.Pair) : List Value := [.string ⟨x.word.toArray⟩, .int .i64 x.r1, .int .i64 x.p1, .int .i64 x.r2, .int .i64 x.p2]
def pairs_ (xs : List M.Pair) : List Value := xs.flatMap pairCells
theorem pairs_len (xs : List M.Pair) : (pairs_ xs).length = xs.length * 5 := flat_len (f := pairCells) (s := 5) (fun _ => rfl) xs
theorem pairs_add (a b : List M.Pair) : pairs_ (a ++ b) = pairs_ a ++ pairs_ b := by simp [pairs_]
theorem Rd.pairAt {w : World} {A : Option Addr} {n : Nat} {xs : List M.Pair} (h : Rd w 5 A n (pairs_ xs)) {k : Nat} (hk : k < n) :
    ∃ b o, A = some ⟨b, o, none⟩ ∧ ∃ hz : k < xs.length, w.cell? ⟨b, o + k * 5, none⟩ = some (.string ⟨xs[k].word.toArray⟩) ∧ w.cell? ⟨b, o + k * 5 + 1, none⟩ = some (.int .i64 xs[k].r1) ∧ w.cell? ⟨b, o + k * 5 + 2, none⟩ = some (.int .i64 xs[k].p1) ∧ w.cell? ⟨b, o + k * 5 + 3, none⟩ = some (.int .i64 xs[k].r2) ∧ w.cell? ⟨b, o + k * 5 + 4, none⟩ = some (.int .i64 xs[k].p2) := by
  obtain ⟨b, o, e, hc⟩ := h.2 (by omega)
  have hl : k < xs.length := by have := h.1; rw [pairs_len] at this; omega
  have hq := fun q hq => flat_at (f := pairCells) (s := 5) (fun _ => rfl) xs k q hl hq
  refine ⟨b, o, e, hl, ?_, ?_, ?_, ?_, ?_⟩
  · simpa using hc (k * 5) _ (hq 0 (by omega))
  · rw [Nat.add_assoc]; exact hc (k * 5 + 1) _ (hq 1 (by omega))
  · rw [Nat.add_assoc]; exact hc (k * 5 + 2) _ (hq 2 (by omega))
  · rw [Nat.add_assoc]; exact hc (k * 5 + 3) _ (hq 3 (by omega))
  · rw [Nat.add_assoc]; exact hc (k * 5 + 4) _ (hq 4 (by omega))
theorem isSome_keep {w : World} {b o b' o' : Nat} {v : Value} (h : (w.cell? ⟨b', o', none⟩).isSome = true) : ((w.setCell ⟨b, o, none⟩ v).cell? ⟨b', o', none⟩).isSome = true := by
  obtain ⟨u, hu⟩ := Option.isSome_iff_exists.1 h
  by_cases e : b = b' ∧ o = o'
  · obtain ⟨rfl, rfl⟩ := e
    rw [cell_set_eq v hu]
    rfl
  · rw [cell_set_ne v (by omega), hu]
    rfl
theorem set_some {w : World} {b o : Nat} {v : Value} (h : (w.cell? ⟨b, o, none⟩).isSome = true) : (w.setCell ⟨b, o, none⟩ v).cell? ⟨b, o, none⟩ = some v := by
  obtain ⟨u, hu⟩ := Option.isSome_iff_exists.1 h
  exact cell_set_eq v hu
theorem some_of {w : World} {b o : Nat} {v : Value} (h : w.cell? ⟨b, o, none⟩ = some v) : (w.cell? ⟨b, o, none⟩).isSome = true := by rw [h]; rfl


theorem held7 {a w w1 : World} {b0 o0 : Nat} {u0 : Value} {b1 o1 : Nat} {u1 : Value} {b2 o2 : Nat} {u2 : Value} {b3 o3 : Nat} {u3 : Value} {b4 o4 : Nat} {u4 : Value} {b5 o5 : Nat} {u5 : Value} {b6 o6 : Nat} {u6 : Value} (h : w.cell? ⟨b0, o0, none⟩ = some u0 ∧ w.cell? ⟨b1, o1, none⟩ = some u1 ∧ w.cell? ⟨b2, o2, none⟩ = some u2 ∧ w.cell? ⟨b3, o3, none⟩ = some u3 ∧ w.cell? ⟨b4, o4, none⟩ = some u4 ∧ w.cell? ⟨b5, o5, none⟩ = some u5 ∧ w.cell? ⟨b6, o6, none⟩ = some u6 ∧ Below a.heap.size a w) (hb : Below w.heap.size w w1) :
    w1.cell? ⟨b0, o0, none⟩ = some u0 ∧ w1.cell? ⟨b1, o1, none⟩ = some u1 ∧ w1.cell? ⟨b2, o2, none⟩ = some u2 ∧ w1.cell? ⟨b3, o3, none⟩ = some u3 ∧ w1.cell? ⟨b4, o4, none⟩ = some u4 ∧ w1.cell? ⟨b5, o5, none⟩ = some u5 ∧ w1.cell? ⟨b6, o6, none⟩ = some u6 ∧ Below a.heap.size a w1 :=
  ⟨cellKeep hb h.1, cellKeep hb h.2.1, cellKeep hb h.2.2.1, cellKeep hb h.2.2.2.1, cellKeep hb h.2.2.2.2.1, cellKeep hb h.2.2.2.2.2.1, cellKeep hb h.2.2.2.2.2.2.1, below_then h.2.2.2.2.2.2.2 hb⟩
theorem held7_below {a w : World} {p0 p1 p2 p3 p4 p5 p6 : Prop} (h : p0 ∧ p1 ∧ p2 ∧ p3 ∧ p4 ∧ p5 ∧ p6 ∧ Below a.heap.size a w) : Below a.heap.size a w := h.2.2.2.2.2.2.2

end Go.Proofs.Ytlohpphmamapeaa
