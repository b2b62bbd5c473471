/-
  A slice over memory that a call has made: what a marking may write, and what it leaves.
  Conditions: none; this text names no law.
-/
import Derived.Test.YtlohpphmamapeaaPush
namespace Go.Proofs.Ytlohpphmamapeaa
open Go.RowKit
set_option linter.unusedVariables false

/-- The slice lies in a block from 'base' on, not frozen, and holds the cells xs. -/
def Own (w : World) (base size : Nat) (A : Option Addr) (n : Nat) (xs : List Value) : Prop :=
  xs.length = n * size ∧ (0 < n → ∃ g o cur E, A = some ⟨g, o, none⟩ ∧ base ≤ g ∧ w.heap[g]? = some (.cells cur E (0, 0)) ∧ o + n * size ≤ cur.size ∧ (cur.toList.drop o).take (n * size) = xs)
/-- The row that a marking writes. -/
def blk (A : Option Addr) (n : Nat) : Option Nat := if n = 0 then none else A.map (·.block)

section
variable {w w' : World} {base size n : Nat} {A : Option Addr} {xs : List Value}
theorem Own.of_row {e : TypeId} {c : Nat} (h : w.ownsRow base e size (.slice A n c) n xs) : Own w base size A n xs := by
  refine ⟨h.1, fun hn => ?_⟩
  rcases h.2 with ⟨_, h0⟩ | ⟨g, cap, cur, hv, hb, hg, hnc, _, hcs, ht⟩
  · omega
  · injection hv with hA
    refine ⟨g, 0, cur, e, hA, hb, hg, ?_, by simpa using ht⟩
    rw [hcs, Nat.zero_add]
    exact Nat.mul_le_mul_right size hnc
theorem Own.cells (h : Own w base size A n xs) (hn : 0 < n) : ∃ g o, A = some ⟨g, o, none⟩ ∧ base ≤ g ∧ g < w.heap.size ∧ (∀ j u, xs[j]? = some u → w.cell? ⟨g, o + j, none⟩ = some u) ∧ (∀ j, w.frozen? ⟨g, o + j, none⟩ = false) ∧
    ∀ j u, Own (w.setCell ⟨g, o + j, none⟩ u) base size A n (xs.set j u) ∧ w.grownBy (w.setCell ⟨g, o + j, none⟩ u) (some g) := by
  obtain ⟨g, o, cur, E, hA, hb, hg, hl, ht⟩ := h.2 hn
  refine ⟨g, o, hA, hb, (Array.getElem?_eq_some_iff.1 hg).1, fun j u hu => ?_, fun j => frozen_of_row w g _ cur E hg, fun j u => ⟨⟨by simpa using h.1, fun _ => ⟨g, o, cur.setIfInBounds (o + j) u, E, hA, hb, heap_setCell_same w g _ cur E u hg, by simpa using hl, ?_⟩⟩, ?_⟩⟩
  · rw [cell_of_row w g (o + j) cur E (0, 0) hg, ← Array.getElem?_toList]
    rw [← ht, List.getElem?_take] at hu
    split at hu
    · rwa [List.getElem?_drop] at hu
    · cases hu
  · rw [Array.toList_setIfInBounds, ← ht, List.drop_set, if_neg (by omega), Nat.add_sub_cancel_left, List.take_set]
  · exact ⟨rfl, rfl, rfl, by simp, fun k _ hk => heap_setCell_other w ⟨g, o + j, none⟩ k u (fun e => hk (by simp [e]))⟩
theorem Own.rd (h : Own w base size A n xs) : Rd w size A n xs :=
  ⟨h.1, fun hn => by
    obtain ⟨g, o, hA, _, _, hc, _⟩ := h.cells hn
    exact ⟨g, o, hA, hc⟩⟩
theorem blk_some {g : Nat} (h : blk A n = some g) : 0 < n ∧ ∃ ad, A = some ad ∧ ad.block = g := by
  unfold blk at h
  split at h
  · cases h
  · rename_i h0
    cases A with
    | none => cases h
    | some ad => exact ⟨by omega, ad, rfl, by simpa using h⟩
theorem Own.lt (h : Own w base size A n xs) : ∀ g, blk A n = some g → base ≤ g ∧ g < w.heap.size := by
  intro g hg
  obtain ⟨hn, ad, rfl, rfl⟩ := blk_some hg
  obtain ⟨g, o, hA, hb, hlt, _⟩ := h.cells hn
  injection hA with hA
  subst hA
  exact ⟨hb, hlt⟩
theorem Own.grown (h : Own w base size A n xs) {row : Option Nat} (hg : w.grownBy w' row) (hne : ∀ g, blk A n = some g → some g ≠ row) : Own w' base size A n xs :=
  ⟨h.1, fun hn => by
    obtain ⟨g, o, cur, E, hA, hb, hgg, hl, ht⟩ := h.2 hn
    refine ⟨g, o, cur, E, hA, hb, ?_, hl, ht⟩
    rw [hg.block g (Array.getElem?_eq_some_iff.1 hgg).1 (hne g (by unfold blk; rw [if_neg (by omega), hA]; rfl))]
    exact hgg⟩
theorem Own.below (h : Own w base size A n xs) (hb : Below w.heap.size w w') : Own w' base size A n xs :=
  h.grown (grown_of_below hb none) (by simp)
theorem Own.mono {base' : Nat} (h : Own w base size A n xs) (hb : base' ≤ base) : Own w base' size A n xs :=
  ⟨h.1, fun hn => by
    obtain ⟨g, o, cur, E, hA, hbb, r⟩ := h.2 hn
    exact ⟨g, o, cur, E, hA, by omega, r⟩⟩
/-- What is read was there before the marked slice was made. -/
theorem Rd.mark {w0 : World} {s n' b' s' : Nat} {A' : Option Addr} {xs' ys : List Value} (h : Rd w s A' n' xs') (hs : 0 < s) (h0 : Rd w0 s A' n' xs') (ho : Own w b' s' A n ys) (hb : w0.heap.size ≤ b') (hg : w.grownBy w' (blk A n)) : Rd w' s A' n' xs' := by
  refine h.grown hg fun hn ad ha e => ?_
  have h1 := h0.lt hs hn ha
  have h2 := (ho.lt ad.block e.symm).1
  omega
/-- Another slice of the call's own that was made behind the marked one. -/
theorem Own.mark {b' s' n' : Nat} {A' : Option Addr} {ys : List Value} {w0 : World} (h : Own w base size A n xs) (ho : Own w0 b' s' A' n' ys) (hb : w0.heap.size ≤ base) (hg : w.grownBy w' (blk A' n')) : Own w' base size A n xs := by
  refine h.grown hg fun g hgg e => ?_
  have h1 := (h.lt g hgg).1
  have h2 := (ho.lt g e.symm).2
  omega
end

theorem below_alloc1 {w w' : World} {o : Obj} (hb : Below (w.alloc o).heap.size (w.alloc o) w') : Below w.heap.size w w' :=
  ((Below.refl _ _).alloc (Nat.le_refl _) _).trans (hb.mono (by simp))
theorem below_alloc2 {w w' : World} {o o2 : Obj} (hb : Below ((w.alloc o).alloc o2).heap.size ((w.alloc o).alloc o2) w') : Below w.heap.size w w' := below_alloc1 (below_alloc1 hb)
theorem below_drewN1 {w w' : World} {n : Nat} (hb : Below (w.drewN n).heap.size (w.drewN n) w') : Below w.heap.size w w' := (below_drewN (Below.refl _ _) n).trans hb

/-- A call that returns a slice of its own inside a value: its cells; below the old heap nothing has turned. -/
def RetOwn (mk : Option Addr → Nat → Value) (e size n : Nat) (cs : List Value) (w : World) (x : Ending) (w' : World) : Prop :=
  ∃ A c, x = .returned (mk A c) ∧ w'.ownsRow w.heap.size e size (.slice A n c) n cs ∧ Below w.heap.size w w'
theorem RetRow.own {e size n : Nat} {cs : List Value} {w : World} {x : Ending} {w' : World} (h : RetRow e size n cs w x w') : RetOwn (fun A c => .slice A n c) e size n cs w x w' := h

/-- What lay below B is kept when a slice of the call's own, made from B on, is marked. -/
theorem below_mark {B : Nat} {w0 w w' : World} {base size n : Nat} {A : Option Addr} {xs : List Value} (ht : Below B w0 w) (ho : Own w base size A n xs) (hB : B ≤ base) (hB0 : B ≤ w.heap.size) (hg : w.grownBy w' (blk A n)) : Below B w0 w' :=
  ht.grown hg hB0 (fun k hk => Nat.le_trans hB (ho.lt k hk).1)

theorem make_law {P : Program} {ops : Array Oper} {rest : List Oper} {o : Oper} {a : Act} {Q : Exit → Act → World → Prop} {w : World} (hgd : o.guard = none) (l : Operand) {t : TypeId} (ho : o.op = .makeSlice t l l) {e : TypeId} {size : Nat} (T : SlT P t e size)
    {kl : IntKind} {n : Nat} (hl : a.eval l = .int kl (n : Int)) (hn : n ≤ 1099511627776)
    (h : ∀ zs w', zs.length = n * size → Own w' w.heap.size size (some ⟨w.heap.size, 0, none⟩) n zs → Below w.heap.size w w' → wpList P ops Q rest (a.put o.dst (.slice (some ⟨w.heap.size, 0, none⟩) n n)) w') : wpList P ops Q (o :: rest) a w := by
  obtain ⟨i, z, hi, hz, hsz, hby, hzs⟩ := T.info
  refine wpList_make_full w hgd l l t ho w.heap.size e i z size T.und hi hz hsz kl kl n n n hl hl rfl rfl ?_ ?_ (Nat.le_refl _) ?_
  · have := Nat.mul_le_mul hby hn
    omega
  · simp only [maxLen]; omega
  · intro w' hown hg
    exact h _ w' (by simpa using hown.1) (Own.of_row hown) ((Below.refl _ _).grown hg (Nat.le_refl _) (by simp))

theorem Own.at0 {w : World} {base size g n : Nat} {xs : List Value} (h : Own w base size (some ⟨g, 0, none⟩) n xs) (hn : 0 < n) :
    base ≤ g ∧ (∀ j u, xs[j]? = some u → w.cell? ⟨g, j, none⟩ = some u) ∧ (∀ j, w.frozen? ⟨g, j, none⟩ = false) ∧ ∀ j u, Own (w.setCell ⟨g, j, none⟩ u) base size (some ⟨g, 0, none⟩) n (xs.set j u) := by
  obtain ⟨g', o, hA, hb, _, hc, hf, hs⟩ := h.cells hn
  injection hA with hA
  injection hA with h1 h2
  subst h1
  subst h2
  simp only [Nat.zero_add] at hc hf hs
  exact ⟨hb, hc, hf, fun j u => (hs j u).1⟩

theorem Own.setLow {w : World} {base size n : Nat} {A : Option Addr} {xs : List Value} (h : Own w base size A n xs) {b o : Nat} {u : Value} (hp : b < base) : Own (w.setCell ⟨b, o, none⟩ u) base size A n xs :=
  h.grown (row := some b) ⟨rfl, rfl, rfl, by simp, fun k _ hk => heap_setCell_other w ⟨b, o, none⟩ k u (fun e => hk (by simp [e]))⟩ fun g hg e => by
    have := (h.lt g hg).1
    injection e with e
    omega
/-- A call that returns a slice inside a value, in memory of its own; below the old heap nothing has turned. -/
def RetRd (mk : Option Addr → Nat → Value) (size n : Nat) (cs : List Value) (w : World) (x : Ending) (w' : World) : Prop :=
  ∃ A c, x = .returned (mk A c) ∧ Own w' w.heap.size size A n cs ∧ Below w.heap.size w w'
theorem cell_two' {w : World} {b : Nat} {u : Value} (d : w.cell? ⟨b, 1, none⟩ = some u) (v1 v2 : Value) : ((w.setCell ⟨b, 0, none⟩ v1).setCell ⟨b, 1, none⟩ v2).cell? ⟨b, 1, none⟩ = some v2 :=
  cell_set_eq v2 ((cell_set_ne v1 (Or.inr (by decide))).trans d)

end Go.Proofs.Ytlohpphmamapeaa
