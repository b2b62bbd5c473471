/-
  Arguments that are slices, or structs with slices, opened.
  Conditions: none; this text names no law.
-/
import Derived.Test.YtlohpphmamapeaaOpen
import Derived.Test.YtlohpphmamapeaaMem
import Derived.Test.YtlohpphmamapeaaCells
namespace Go.Proofs.Ytlohpphmamapeaa
open Go.ChangeShapes Go.WideShapes Go.ChangeAt Go.RowKit Go.Joins Go.Deep
set_option linter.unusedVariables false

theorem flat_at {α : Type} {f : α → List Value} {s : Nat} (hf : ∀ r, (f r).length = s) : ∀ (rs : List α) (i q : Nat) (h : i < rs.length), q < s → (rs.flatMap f)[i * s + q]? = (f rs[i])[q]?
  | r :: rs, 0, q, _, hq => by
    rw [List.flatMap_cons, Nat.zero_mul, Nat.zero_add, List.getElem?_append_left (by rw [hf]; exact hq)]
    rfl
  | r :: rs, i + 1, q, h, hq => by
    have ih := flat_at hf rs i q (by simpa using h) hq
    rw [List.flatMap_cons, List.getElem?_append_right (by rw [hf, Nat.add_mul]; omega), hf]
    have e : (i + 1) * s + q - s = i * s + q := by rw [Nat.add_mul]; omega
    rw [e, ih]
    rfl
theorem flat_len {α : Type} {f : α → List Value} {s : Nat} (hf : ∀ r, (f r).length = s) : ∀ rs : List α, (rs.flatMap f).length = rs.length * s
  | [] => by simp
  | r :: rs => by rw [List.flatMap_cons, List.length_append, hf, flat_len hf rs, List.length_cons, Nat.add_mul]; omega

section
variable {H : Type} {enc : TypeId × Value → H} {P : Program} {w : World} {base : Nat} {spare : Nat → Bool} {held : Bool}

theorem structCells {t : TypeId} {fs : Array Field} {fuel : Nat} {cs : List Value} {x : DataW H × List MemPlace} (ht : P.underlying t = some (.struct fs)) (hone : oneCellFields P fs = true) (hC : P.cellsOf t = fs.size)
    (h : DataW.trod enc P w base spare held fuel t cs = some x) : cs.length = fs.size ∧ ∃ n, ∀ (i : Nat) (f : Field) (c : Value), fs[i]? = some f → cs[i]? = some c → ∃ y, DataW.trod enc P w base spare held n f.type [c] = some y := by
  obtain ⟨xs, n, _, _, hl, hx, hf⟩ := DataW.trod_struct ht h
  refine ⟨hl.trans hC, n, fun i f c hi hc => ?_⟩
  obtain ⟨ho, hk⟩ := hone_of hone i f hi
  have h1 := hf i f hi
  have hil : i < fs.size := (Array.getElem?_eq_some_iff.1 hi).1
  obtain ⟨hic, hce⟩ := List.getElem?_eq_some_iff.1 hc
  rw [ho, hk, List.drop_eq_getElem_cons hic, hce] at h1
  simp only [List.take_succ_cons, List.take_zero] at h1
  exact ⟨_, h1.trans (List.getElem?_eq_getElem (by omega))⟩

theorem listOf {α : Type} {Q : Nat → α → Prop} : ∀ (n : Nat), (∀ i, i < n → ∃ r, Q i r) → ∃ rs : List α, rs.length = n ∧ ∀ (i : Nat) (h : i < rs.length), Q i rs[i]
  | 0, _ => ⟨[], rfl, fun i h => by simp at h⟩
  | n + 1, h => by
    obtain ⟨rs, hl, hr⟩ := listOf n (fun i hi => h i (by omega))
    obtain ⟨r, hq⟩ := h n (by omega)
    refine ⟨rs ++ [r], by simp [hl], fun i hi => ?_⟩
    by_cases hin : i < rs.length
    · rw [List.getElem_append_left hin]
      exact hr i hin
    · have e : i = rs.length := by simp at hi; omega
      subst e
      simp only [List.getElem_append_right (Nat.le_refl _), Nat.sub_self, List.getElem_cons_zero]
      rw [hl]
      exact hq

/-- A slice that came in: its elements, its cells. -/
theorem openElems {t e : TypeId} {s fuel : Nat} {v : Value} {x : DataW H × List MemPlace} {α : Type} (f : α → List Value) (ok : α → Prop) (hf : ∀ r, (f r).length = s) (hs : 0 < s) (ht : P.underlying t = some (.slice e)) (hc : P.cellsOf e = s)
    (he : ∀ (n : Nat) (cs : List Value) (y : DataW H × List MemPlace), cs.length = s → DataW.trod enc P w base spare held n e cs = some y → ∃ r, cs = f r ∧ ok r)
    (h : DataW.trod enc P w base spare held fuel t [v] = some x) :
    ∃ (A : Option Addr) (c : Nat) (rs : List α), v = .slice A rs.length c ∧ rs.length ≤ 9223372036854775807 ∧ Rd w s A rs.length (rs.flatMap f) ∧ ∀ r ∈ rs, ok r := by
  rcases Go.Deep.open_slice ht h with ⟨hcs, _⟩ | ⟨a, len, cap, m, n, D, Pl, hcs, _, hl, hm, hmm, _, hi⟩
  · simp only [List.cons.injEq, and_true] at hcs
    exact ⟨none, 0, [], hcs, by simp, ⟨by simp, fun h => absurd h (by simp)⟩, by simp⟩
  · simp only [List.cons.injEq, and_true] at hcs
    have hlm : len ≤ m := by rw [hmm]; split <;> omega
    obtain ⟨rs, hrl, hr⟩ := listOf (α := α) (Q := fun i r => w.cells? base (a.add (i * s)) s = some (f r) ∧ ok r) len (fun i hil => by
      obtain ⟨cs', h1, h2⟩ := hi i (by omega)
      rw [hc] at h1
      obtain ⟨_, h3, _⟩ := World.cells?_some h1
      obtain ⟨r, rfl, hok⟩ := he n cs' _ h3 h2
      exact ⟨r, h1, hok⟩)
    refine ⟨some a, cap, rs, by rw [hrl]; exact hcs, by simp only [maxLen] at hm; omega, ⟨flat_len hf rs, fun hn => ?_⟩, fun r hrm => by
      obtain ⟨i, hi', e⟩ := List.getElem_of_mem hrm
      exact e ▸ (hr i hi').2⟩
    have hcell : ∀ i q (hir : i < rs.length), q < s → w.cell? (a.add (i * s + q)) = (f rs[i])[q]? := by
      intro i q hir hq
      obtain ⟨_, _, h4⟩ := World.cells?_some (hr i hir).1
      rw [← Go.Deep.add_add]
      exact h4 q hq
    obtain ⟨b, o, spot⟩ := a
    have hspot : spot = none := by
      have h0 := hcell 0 0 hn hs
      rw [List.getElem?_eq_getElem (show 0 < (f rs[0]).length by rw [hf]; exact hs)] at h0
      simpa [Addr.add] using World.cell?_spot h0
    subst hspot
    refine ⟨b, o, rfl, fun j u hu => ?_⟩
    have hj : j < rs.length * s := by
      have := (List.getElem?_eq_some_iff.1 hu).1
      rwa [flat_len hf rs] at this
    have hj1 : j / s < rs.length := Nat.div_lt_of_lt_mul (by rw [Nat.mul_comm]; exact hj)
    have hj2 : j % s < s := Nat.mod_lt _ hs
    have e : j = j / s * s + j % s := by rw [Nat.mul_comm]; exact (Nat.div_add_mod j s).symm
    have h5 := hcell (j / s) (j % s) hj1 hj2
    have h6 := flat_at hf rs (j / s) (j % s) hj1 hj2
    rw [← e, Addr.add_lit] at h5
    rw [← e, hu] at h6
    rw [h5, ← h6]
end

section
variable {H : Type} {enc : TypeId × Value → H} {w : World} {b0 : Nat} {held : Bool} {spare : Nat → Bool} {v : Value} {d : DataW H} {p : List MemPlace}
theorem openOneInt {n : Nat} {v : Value} {y : DataW H × List MemPlace} (h : DataW.trod enc Try.prog w 0 spare held n 3 [v] = some y) :
    ∃ k : Int, v = .int .i64 k ∧ -9223372036854775808 ≤ k ∧ k ≤ 9223372036854775807 := by
  obtain ⟨k, e, _, hs⟩ := DataW.trod_int Try.underlying3 h
  simp only [List.cons.injEq, and_true] at e
  exact ⟨k, e, intBounds hs⟩
theorem openOneBool {n : Nat} {v : Value} {y : DataW H × List MemPlace} (h : DataW.trod enc Try.prog w 0 spare held n 4 [v] = some y) : ∃ b : Bool, v = .bool b := by
  obtain ⟨b, e, _⟩ := DataW.trod_bool Try.underlying4 h
  simp only [List.cons.injEq, and_true] at e
  exact ⟨b, e⟩
set_option maxRecDepth 100000 in
theorem openRuleSlice {n : Nat} {v : Value} {y : DataW H × List MemPlace} (h : DataW.trod enc Try.prog w 0 spare held n 22 [v] = some y) :
    ∃ (A : Option Addr) (c : Nat) (rs : List M.Rule), v = .slice A rs.length c ∧ rs.length ≤ 9223372036854775807 ∧ Rd w 2 A rs.length (ruls rs) ∧ ∀ r ∈ rs, r.left.length ≤ 9223372036854775807 ∧ r.right.length ≤ 9223372036854775807 :=
  openElems rule2 _ (fun _ => rfl) (by decide) Try.underlying22 Try.cellsLawRule (fun m cs y hl hy => by
    obtain ⟨_, k, hk⟩ := structCells Try.underlying135 (by kernel_rfl) Try.cellsLawRule hy
    match cs, hl with
    | [c0, c1], _ =>
      obtain ⟨y0, h0⟩ := hk 0 _ c0 rfl rfl
      obtain ⟨y1, h1⟩ := hk 1 _ c1 rfl rfl
      obtain ⟨l, rfl, hl⟩ := openOneString h0
      obtain ⟨r, rfl, hr⟩ := openOneString h1
      exact ⟨⟨l, r⟩, rfl, hl, hr⟩) h
theorem Try.cellsLawSystem : Try.prog.cellsOf 24 = 2 := by kernel_rfl
set_option maxRecDepth 100000 in
theorem openSystem (hv : Value.okWide Try.prog w .any b0 24 v) (h : DataW.Trod enc Try.prog w 0 spare held 24 v d p) :
    ∃ (k : Int) (A : Option Addr) (c : Nat) (rs : List M.Rule), v = .agg #[.int .i64 k, .slice A rs.length c] ∧ ((-9223372036854775808 ≤ k ∧ k ≤ 9223372036854775807) ∧ rs.length ≤ 9223372036854775807 ∧ Rd w 2 A rs.length (ruls rs) ∧ ∀ r ∈ rs, r.left.length ≤ 9223372036854775807 ∧ r.right.length ≤ 9223372036854775807) := by
  obtain ⟨c0, c1, y0, y1, m, rfl, rfl, rfl, hy0, hy1⟩ := open_agg2 Try.underlying24 (by kernel_rfl) Try.cellsLawSystem hv h
  obtain ⟨k, rfl, hk⟩ := openOneInt hy0
  obtain ⟨A, c, rs, rfl, h1, h2, h3⟩ := openRuleSlice hy1
  exact ⟨k, A, c, rs, rfl, hk, h1, h2, h3⟩
end

end Go.Proofs.Ytlohpphmamapeaa
