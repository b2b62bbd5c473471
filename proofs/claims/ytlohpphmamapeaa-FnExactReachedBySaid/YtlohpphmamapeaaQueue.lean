/-
  A queue of numbers: a slice of the call's own that begins at any place of its array; what is appended to it, and what is cut from its head.
  Conditions: none; this text names no law.
-/
import Derived.Test.YtlohpphmamapeaaOwn
import Derived.Test.YtlohpphmamapeaaIdealM
import Derived.Deep.AppendSrc
namespace Go.Proofs.Ytlohpphmamapeaa
open Go.RowKit
set_option linter.unusedVariables false
set_option linter.unusedSimpArgs false

def OwnC (W : World) (base g off n c : Nat) (xs : List Value) : Prop :=
  xs.length = n ∧ n ≤ c ∧ c ≤ maxLen ∧ (0 < c → ∃ cur, base ≤ g ∧ W.heap[g]? = some (.cells cur 3 (0, 0)) ∧ off + c ≤ cur.size ∧ (cur.toList.drop off).take n = xs)
section
variable {W w' : World} {base g off n c : Nat} {xs : List Value}
theorem OwnC.below (h : OwnC W base g off n c xs) (hb : Below W.heap.size W w') : OwnC w' base g off n c xs :=
  ⟨h.1, h.2.1, h.2.2.1, fun hc => by
    obtain ⟨cur, h1, h2, h3, h4⟩ := h.2.2.2 hc
    exact ⟨cur, h1, by rw [hb.block g (Array.getElem?_eq_some_iff.1 h2).1]; exact h2, h3, h4⟩⟩
theorem OwnC.away (h : OwnC W base g off n c xs) {row : Option Nat} (hg : W.grownBy w' row) (hne : some g ≠ row) : OwnC w' base g off n c xs :=
  ⟨h.1, h.2.1, h.2.2.1, fun hc => by
    obtain ⟨cur, h1, h2, h3, h4⟩ := h.2.2.2 hc
    exact ⟨cur, h1, by rw [hg.block g (Array.getElem?_eq_some_iff.1 h2).1 hne]; exact h2, h3, h4⟩⟩
theorem OwnC.cell (h : OwnC W base g off n c xs) {j : Nat} {u : Value} (hu : xs[j]? = some u) : W.cell? ⟨g, off + j, none⟩ = some u := by
  have hj : j < n := by rw [← h.1]; exact (List.getElem?_eq_some_iff.1 hu).1
  obtain ⟨cur, h1, h2, h3, h4⟩ := h.2.2.2 (by have := h.2.1; omega)
  rw [cell_of_row W g (off + j) cur 3 (0, 0) h2, ← Array.getElem?_toList]
  rw [← h4, List.getElem?_take, if_pos hj, List.getElem?_drop] at hu
  exact hu
theorem OwnC.tail (h : OwnC W base g off (n + 1) c xs) (hc : 1 < c) : OwnC W base g (off + 1) n (c - 1) (xs.drop 1) := by
  refine ⟨by rw [List.length_drop, h.1]; rfl, by have := h.2.1; omega, by have := h.2.2.1; omega, fun _ => ?_⟩
  obtain ⟨cur, h1, h2, h3, h4⟩ := h.2.2.2 (by omega)
  refine ⟨cur, h1, h2, by omega, ?_⟩
  rw [← h4, List.drop_take, List.drop_drop]
  rfl
theorem OwnC.tail0 (h : OwnC W base g off 1 1 xs) : OwnC W base g off 0 0 (xs.drop 1) := ⟨by rw [List.length_drop, h.1], by omega, by simp [maxLen], fun h => by omega⟩
theorem OwnC.one (w : World) (z : Int) (hb : base ≤ w.heap.size) : OwnC (w.alloc (.cells #[.int .i64 z] 3)) base w.heap.size 0 1 1 [.int .i64 z] :=
  ⟨rfl, by omega, by simp [maxLen], fun _ => ⟨#[.int .i64 z], hb, heap_alloc_new w _, by simp, rfl⟩⟩
end
section
variable {ops : Array Oper} {rest : List Oper} {o : Oper} {a : Act} {Q : Exit → Act → World → Prop} {W : World}
set_option maxRecDepth 100000 in
theorem push_off (hgd : o.guard = none) (s x : Operand) (ho : o.op = .call { callee := .builtin .append, args := #[s, x], argTypes := #[35, 35] })
    {base g off n c gx : Nat} {xs : List Value} {u : Value} (hs : a.eval s = .slice (some ⟨g, off, none⟩) n c) (hown : OwnC W base g off n c xs) (hx : a.eval x = .slice (some ⟨gx, 0, none⟩) 1 1)
    (hcell : W.cell? ⟨gx, 0, none⟩ = some u) (h1 : u.oneCell' = true) (hbw : base ≤ W.heap.size) (hn : n < 1048576)
    (h : ∀ g' o' c' w', OwnC w' base g' o' (n + 1) c' (xs ++ [u]) → W.grownBy w' (some g) → wpList Try.prog ops Q rest (a.put o.dst (.slice (some ⟨g', o', none⟩) (n + 1) c')) w') : wpList Try.prog ops Q (o :: rest) a W := by
  obtain ⟨i, z, hi, hz, hsz, hby, hzs⟩ := slInt.info
  have hnews : ∀ j v, ([u] : List Value)[j]? = some v → W.cell? ((⟨gx, 0, none⟩ : Addr).add j) = some v := fun j v hv => by
    cases j with
    | zero => simp at hv; subst hv; exact hcell
    | succ j => simp at hv
  have hone : ∀ v ∈ [u], v.oneCell' = true := fun v hv => by obtain rfl := List.mem_singleton.1 hv; exact h1
  refine wpList_plain hgd fun K hK' => ?_
  by_cases hroom : n + 1 ≤ c
  · obtain ⟨cur, h2, h3, h4, h5⟩ := hown.2.2.2 (by omega)
    have hc : W.cell? ⟨g, off + n, none⟩ = cur[off + n]? := cell_of_row W g (off + n) cur 3 (0, 0) h3
    have hf := frozen_of_row W g (off + n) cur 3 h3
    have hrun := run_append_room_src (P := Try.prog) (w := W) 35 35 o.type 3 i slInt.und hi g off n c (.slice (some ⟨gx, 0, none⟩) 1 1) 1 [u] (by
        rw [hsz]
        exact Src.ofSlice W slInt.und ⟨gx, 0, none⟩ 1 1 [u] rfl hnews hone) hroom (fun j hj => by
        have hj0 : j = 0 := by simpa using hj
        subst hj0
        rw [hsz, Nat.mul_one, Nat.add_zero, hc, Array.getElem?_eq_getElem (by omega)]
        rfl) (fun j hj => by
        have hj0 : j = 0 := by simpa using hj
        subst hj0
        rw [hsz, Nat.mul_one, Nat.add_zero]
        exact hf)
    rw [hsz, Nat.mul_one] at hrun
    unfold Oper.wp
    simp [execOp, ho, resolve, invoke, builtin, hs, hx, hrun, Result.andThen]
    refine hK' _ _ (h g off c _ ⟨by rw [List.length_append, hown.1]; rfl, hroom, hown.2.2.1, fun _ => ⟨cur.setIfInBounds (off + n) u, h2, heap_setCell_same W g _ cur _ u h3, by simpa using h4, ?_⟩⟩ ⟨rfl, rfl, rfl, by simp [World.setCells], fun k _ hk => heap_setCell_other W ⟨g, off + n, none⟩ k u (fun e => hk (by simp [e]))⟩)
    rw [Array.toList_setIfInBounds, List.drop_set, if_neg (by omega), Nat.add_sub_cancel_left, List.take_add_one, List.take_set_of_le (by omega), h5]
    congr 1
    rw [List.getElem?_set, if_pos rfl, if_pos (by simp; omega)]
    rfl
  · have holds : ∀ j v, xs[j]? = some v → W.cell? ((⟨g, off, none⟩ : Addr).add j) = some v := fun j v hv => by
      have ha : (⟨g, off, none⟩ : Addr).add j = ⟨g, off + j, none⟩ := by unfold Addr.add; split <;> simp_all
      rw [ha]
      exact hown.cell hv
    have hcn : c = n := by have := hown.2.1; omega
    have hb64 : (n + 1) * i.bytes ≤ 140737488355328 := by
      have := Nat.mul_le_mul (show n + 1 ≤ 1048576 by omega) hby
      omega
    have hrun := run_append_grow (P := Try.prog) W 35 o.type 3 i z slInt.und hi hz ⟨g, off, none⟩ n c xs (by rw [hown.1, hsz, Nat.mul_one]) holds ⟨gx, 0, none⟩ 1 1 [u] (by rw [hsz]; rfl) hnews (by omega) (by omega) (growslice_fits (by omega) hb64)
    have hge := grownCap_ge W (n + 1) c 3
    have hle := grownCap_le_maxLen W (n + 1) c 3 (by simp only [maxLen]; omega)
    unfold Oper.wp
    simp [execOp, ho, resolve, invoke, builtin, hs, hx, hrun, Result.andThen]
    refine hK' _ _ (h W.heap.size 0 _ _ ⟨by rw [List.length_append, hown.1]; rfl, hge, hle, fun _ => ⟨_, hbw, heap_alloc_new W.drew _, ?_, ?_⟩⟩ ⟨rfl, rfl, rfl, by simp, fun k hk _ => ((Below.refl W.heap.size W.drew).alloc (Nat.le_refl _) _).block k hk⟩)
    · simp only [Array.size_append, List.size_toArray, size_zeroCells, hzs, hown.1, Nat.zero_add, Nat.mul_one, List.length_cons, List.length_nil]
      have hxl : (xs ++ [u]).length = n + 1 := by rw [List.length_append, hown.1]; rfl
      omega
    · simp only [Array.toList_append, List.append_assoc, List.drop_zero]
      rw [← List.append_assoc]
      exact List.take_left' (by rw [List.length_append, hown.1]; rfl)
end
end Go.Proofs.Ytlohpphmamapeaa
