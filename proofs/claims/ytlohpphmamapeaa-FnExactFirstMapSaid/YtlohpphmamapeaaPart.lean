/-
  A slice that is being filled, element by element; cells that a region keeps.
  Conditions: none; this text names no law.
-/
import Derived.Test.YtlohpphmamapeaaOwn
namespace Go.Proofs.Ytlohpphmamapeaa
open Go.RowKit
set_option linter.unusedVariables false

theorem held4 {a w w1 : World} {b1 o1 b2 o2 b3 o3 b4 o4 : Nat} {u1 u2 u3 u4 : Value} (h : w.cell? ⟨b1, o1, none⟩ = some u1 ∧ w.cell? ⟨b2, o2, none⟩ = some u2 ∧ w.cell? ⟨b3, o3, none⟩ = some u3 ∧ w.cell? ⟨b4, o4, none⟩ = some u4 ∧ Below a.heap.size a w) (hb : Below w.heap.size w w1) :
    w1.cell? ⟨b1, o1, none⟩ = some u1 ∧ w1.cell? ⟨b2, o2, none⟩ = some u2 ∧ w1.cell? ⟨b3, o3, none⟩ = some u3 ∧ w1.cell? ⟨b4, o4, none⟩ = some u4 ∧ Below a.heap.size a w1 :=
  ⟨cellKeep hb h.1, cellKeep hb h.2.1, cellKeep hb h.2.2.1, cellKeep hb h.2.2.2.1, below_then h.2.2.2.2 hb⟩
theorem held4_below {a w : World} {p1 p2 p3 p4 : Prop} (h : p1 ∧ p2 ∧ p3 ∧ p4 ∧ Below a.heap.size a w) : Below a.heap.size a w := h.2.2.2.2
/-- The cells of a slice that is being filled. -/
def part {α : Type} (f : α → List Value) (rs : List α) (zs : List Value) (s k : Nat) : List Value := (rs.take k).flatMap f ++ zs.drop (k * s)
theorem part_len {α : Type} {f : α → List Value} {s : Nat} (hf : ∀ r, (f r).length = s) : ∀ (rs : List α) (k : Nat), ((rs.take k).flatMap f).length = min k rs.length * s
  | [], k => by simp
  | r :: rs, 0 => by simp
  | r :: rs, k + 1 => by
    have := part_len hf rs k
    rw [List.take_succ_cons, List.flatMap_cons, List.length_append, hf, this, List.length_cons]
    have e : min (k + 1) (rs.length + 1) = min k rs.length + 1 := by omega
    rw [e, Nat.add_mul]; omega
theorem set_here {α : Type} (a t : List α) (x u : α) {k : Nat} (h : k = a.length) : (a ++ x :: t).set k u = a ++ u :: t := by
  subst h; rw [List.set_append_right _ _ (Nat.le_refl _), Nat.sub_self, List.set_cons_zero]
theorem part2 {α : Type} {f : α → List Value} (hf : ∀ r, (f r).length = 2) {rs : List α} {zs : List Value} {k : Nat} (hk : k < rs.length) (hz : zs.length = rs.length * 2) {u v : Value} (h : f rs[k] = [u, v]) :
    ((part f rs zs 2 k).set (k * 2) u).set (k * 2 + 1) v = part f rs zs 2 (k + 1) := by
  have hl := part_len hf rs k
  rw [Nat.min_eq_left (by omega)] at hl
  unfold part
  rw [List.drop_eq_getElem_cons (l := zs) (i := k * 2) (by omega), List.drop_eq_getElem_cons (l := zs) (i := k * 2 + 1) (by omega), set_here _ _ _ _ hl.symm]
  have e : (rs.take k).flatMap f ++ u :: zs[k * 2 + 1]'(by omega) :: zs.drop (k * 2 + 1 + 1) = ((rs.take k).flatMap f ++ [u]) ++ zs[k * 2 + 1]'(by omega) :: zs.drop (k * 2 + 1 + 1) := by simp
  rw [e, set_here _ _ _ _ (by simp [hl]), List.take_succ_eq_append_getElem hk, List.flatMap_append]
  have e2 : (k + 1) * 2 = k * 2 + 1 + 1 := by omega
  simp [h, e2]
theorem part_all {α : Type} {f : α → List Value} {rs : List α} {zs : List Value} {s : Nat} (hz : zs.length = rs.length * s) : part f rs zs s rs.length = rs.flatMap f := by
  unfold part; rw [List.take_length, ← hz, List.drop_length, List.append_nil]
theorem part_zero {α : Type} {f : α → List Value} {rs : List α} {zs : List Value} {s : Nat} : part f rs zs s 0 = zs := by simp [part]
theorem Own.len {w : World} {base size n : Nat} {A : Option Addr} {xs : List Value} (h : Own w base size A n xs) : xs.length = n * size := h.1
theorem part3 {α : Type} {f : α → List Value} (hf : ∀ r, (f r).length = 3) {rs : List α} {zs : List Value} {k : Nat} (hk : k < rs.length) (hz : zs.length = rs.length * 3) {u v x : Value} (h : f rs[k] = [u, v, x]) :
    (((part f rs zs 3 k).set (k * 3) u).set (k * 3 + 1) v).set (k * 3 + 2) x = part f rs zs 3 (k + 1) := by
  have hl := part_len hf rs k
  rw [Nat.min_eq_left (by omega)] at hl
  unfold part
  rw [List.drop_eq_getElem_cons (l := zs) (i := k * 3) (by omega), List.drop_eq_getElem_cons (l := zs) (i := k * 3 + 1) (by omega), List.drop_eq_getElem_cons (l := zs) (i := k * 3 + 1 + 1) (by omega), set_here _ _ _ _ hl.symm]
  have e : ∀ (a b : Value) t, (rs.take k).flatMap f ++ u :: a :: b :: t = ((rs.take k).flatMap f ++ [u]) ++ a :: b :: t := fun a b t => by simp
  rw [e, set_here _ _ _ _ (by simp [hl])]
  have e' : ∀ (b : Value) t, ((rs.take k).flatMap f ++ [u]) ++ v :: b :: t = ((rs.take k).flatMap f ++ [u, v]) ++ b :: t := fun b t => by simp
  rw [e', set_here _ _ _ _ (by simp [hl]), List.take_succ_eq_append_getElem hk, List.flatMap_append]
  have e2 : (k + 1) * 3 = k * 3 + 1 + 1 + 1 := by omega
  simp [h, e2]

end Go.Proofs.Ytlohpphmamapeaa
