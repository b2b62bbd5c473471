/-
  The plain law of ideals: sorted and compacted, a list of numbers below n is the chosen numbers below n.
  Conditions: none; no program in this text.
-/
import Derived.Test.YtlohpphmamapeaaModTab
import Derived.Lib.SlicesCompact
namespace Go.Proofs.Ytlohpphmamapeaa
set_option linter.unusedVariables false
set_option linter.unusedSimpArgs false

theorem sorted_ext : ∀ a b : List Int, a.Pairwise (· < ·) → b.Pairwise (· < ·) → (∀ z, z ∈ a ↔ z ∈ b) → a = b
  | [], [], _, _, _ => rfl
  | [], y :: b, _, _, h => by have := (h y).2 (by simp); simp at this
  | x :: a, [], _, _, h => by have := (h x).1 (by simp); simp at this
  | x :: a, y :: b, ha, hb, h => by
    obtain ⟨ha1, ha2⟩ := List.pairwise_cons.1 ha
    obtain ⟨hb1, hb2⟩ := List.pairwise_cons.1 hb
    have e : x = y := by
      rcases List.mem_cons.1 ((h x).1 (by simp)) with e | hx
      · exact e
      · rcases List.mem_cons.1 ((h y).2 (by simp)) with e | hy
        · exact e.symm
        · have h1 := ha1 y hy
          have h2 := hb1 x hx
          omega
    subst e
    rw [sorted_ext a b ha2 hb2 fun z => ⟨fun hz => by
      rcases List.mem_cons.1 ((h z).1 (List.mem_cons_of_mem _ hz)) with e | hz'
      · have := ha1 z hz; omega
      · exact hz', fun hz => by
      rcases List.mem_cons.1 ((h z).2 (List.mem_cons_of_mem _ hz)) with e | hz'
      · have := hb1 z hz; omega
      · exact hz'⟩]
theorem compact_spec (d : Array Int) (hd : ∀ i j, i ≤ j → j < d.size → d[i]! ≤ d[j]!) : ∀ m, m ≤ d.size → (Lib.compactUpTo d m).Pairwise (· < ·) ∧ ∀ z, z ∈ Lib.compactUpTo d m ↔ ∃ j, j < m ∧ d[j]! = z
  | 0, _ => by simp [Lib.compactUpTo]
  | m + 1, hm => by
    obtain ⟨h1, h2⟩ := compact_spec d hd m (by omega)
    rw [Lib.compactUpTo_succ]
    by_cases hk : Lib.keeps d m = true
    · rw [if_pos hk]
      refine ⟨List.pairwise_append.2 ⟨h1, by simp, fun x hx y hy => ?_⟩, fun z => ?_⟩
      · obtain rfl := List.mem_singleton.1 hy
        obtain ⟨j, hj, rfl⟩ := (h2 x).1 hx
        have h3 := hd j (m - 1) (by omega) (by omega)
        have h4 := hd (m - 1) m (by omega) (by omega)
        unfold Lib.keeps at hk
        have h5 := of_decide_eq_true hk
        rcases h5 with h5 | h5
        · omega
        · have : d[m]! ≠ d[m - 1]! := h5
          omega
      · rw [List.mem_append, h2, List.mem_singleton]
        constructor
        · rintro (⟨j, hj, e⟩ | e)
          · exact ⟨j, by omega, e⟩
          · exact ⟨m, by omega, e.symm⟩
        · rintro ⟨j, hj, e⟩
          by_cases hjm : j = m
          · subst hjm; exact Or.inr e.symm
          · exact Or.inl ⟨j, by omega, e⟩
    · rw [if_neg hk, List.append_nil]
      refine ⟨h1, fun z => ?_⟩
      unfold Lib.keeps at hk
      have h5 : ¬ (m = 0 ∨ d[m]! ≠ d[m - 1]!) := fun h => hk (decide_eq_true h)
      have h6 : m ≠ 0 := fun h => h5 (Or.inl h)
      have h7 : d[m]! = d[m - 1]! := Decidable.byContradiction fun h => h5 (Or.inr h)
      rw [h2]
      constructor
      · rintro ⟨j, hj, e⟩
        exact ⟨j, by omega, e⟩
      · rintro ⟨j, hj, e⟩
        by_cases hjm : j = m
        · subst hjm; exact ⟨j - 1, by omega, by rw [← h7]; exact e⟩
        · exact ⟨j, by omega, e⟩
theorem mem_sel {p : Nat → Bool} {n : Nat} {z : Int} : z ∈ M.sel p n ↔ ∃ i : Nat, i < n ∧ p i = true ∧ z = (i : Int) := by
  unfold M.sel
  rw [List.mem_map]
  constructor
  · rintro ⟨i, hi, rfl⟩
    obtain ⟨h1, h2⟩ := List.mem_filter.1 hi
    exact ⟨i, List.mem_range.1 h1, h2, rfl⟩
  · rintro ⟨i, hi, hp, rfl⟩
    exact ⟨i, List.mem_filter.2 ⟨List.mem_range.2 hi, hp⟩, rfl⟩
theorem sel_sorted (p : Nat → Bool) (n : Nat) : (M.sel p n).Pairwise (· < ·) := by
  unfold M.sel
  rw [List.pairwise_map]
  refine List.Pairwise.imp ?_ (List.Pairwise.filter p (List.pairwise_lt_range (n := n)))
  intro a b h
  omega
def M.sortI (l : List Int) : List Int := l.mergeSort fun x y => decide (x ≤ y)
theorem sortI_len (l : List Int) : (M.sortI l).length = l.length := by unfold M.sortI; simp
theorem collect_law (l : List Int) (n : Nat) (h : ∀ z ∈ l, 0 ≤ z ∧ z < n) : Lib.compact (M.sortI l) = M.sel (fun z => l.contains (z : Int)) n := by
  have hs : (M.sortI l).Pairwise (fun x y : Int => decide (x ≤ y) = true) := List.pairwise_mergeSort (fun a b c h1 h2 => by simp at h1 h2 ⊢; omega) (fun a b => by simp; omega) l
  have hm : ∀ z, z ∈ M.sortI l ↔ z ∈ l := fun z => by unfold M.sortI; rw [List.mem_mergeSort]
  have hd : ∀ i j, i ≤ j → j < (M.sortI l).toArray.size → (M.sortI l).toArray[i]! ≤ (M.sortI l).toArray[j]! := fun i j hij hj => by
    have hj' : j < (M.sortI l).length := by simpa using hj
    have hi' : i < (M.sortI l).length := by omega
    have e1 : (M.sortI l).toArray[i]! = (M.sortI l)[i] := by simp [hi']
    have e2 : (M.sortI l).toArray[j]! = (M.sortI l)[j] := by simp [hj']
    rw [e1, e2]
    by_cases he : i = j
    · subst he; exact Int.le_refl _
    · have := List.pairwise_iff_getElem.1 hs i j hi' hj' (by omega)
      exact of_decide_eq_true this
  obtain ⟨h1, h2⟩ := compact_spec (M.sortI l).toArray hd (M.sortI l).length (by simp)
  refine sorted_ext _ _ h1 (sel_sorted _ n) fun z => ?_
  show z ∈ Lib.compactUpTo (M.sortI l).toArray (M.sortI l).length ↔ _
  rw [h2, mem_sel]
  constructor
  · rintro ⟨j, hj, e⟩
    have e1 : (M.sortI l).toArray[j]! = (M.sortI l)[j] := by simp [hj]
    rw [e1] at e
    have hz : z ∈ l := (hm z).1 (by rw [← e]; exact List.getElem_mem hj)
    obtain ⟨h3, h4⟩ := h z hz
    exact ⟨z.toNat, by omega, by rw [Int.toNat_of_nonneg h3]; simpa using hz, by omega⟩
  · rintro ⟨i, hi, hp, rfl⟩
    have hz : (i : Int) ∈ l := by simpa using hp
    obtain ⟨j, hj, e⟩ := List.getElem_of_mem ((hm _).2 hz)
    exact ⟨j, hj, by rw [← e]; simp [hj]⟩
theorem sel_congr {p q : Nat → Bool} {n : Nat} (h : ∀ i, i < n → p i = q i) : M.sel p n = M.sel q n := by
  unfold M.sel
  congr 1
  exact List.filter_congr fun i hi => h i (List.mem_range.1 hi)

/-- The products that make an ideal: those of the first x elements, then y of the next one. -/
def M.rowOf (n : Nat) (xs : List Int) (kind : Int) (i : Int) (x : Nat) : List Int :=
  if kind = 1 then [M.tI n xs i x] else if kind = 2 then [M.tI n xs x i] else (List.range n).map fun (y : Nat) => M.tI n xs (M.tI n xs x i) (y : Int)
def M.rawTo (n : Nat) (xs : List Int) (kind : Int) (i : Int) : Nat → List Int
  | 0 => []
  | x + 1 => M.rawTo n xs kind i x ++ M.rowOf n xs kind i x
def M.ideal (n : Nat) (xs : List Int) (kind : Int) (i : Int) : List Int := M.sel (fun z => (M.rawTo n xs kind i n).contains (z : Int)) n
theorem row_in {n : Nat} {xs : List Int} (h : M.InP n xs) (hl : xs.length = n * n) {kind i : Int} (hi : 0 ≤ i ∧ i < n) {x : Nat} (hx : x < n) : ∀ z ∈ M.rowOf n xs kind i x, 0 ≤ z ∧ z < n := by
  have h1 := M.tI_in h hl hi (y := (x : Int)) (by omega)
  have h2 := M.tI_in h hl (x := (x : Int)) (by omega) hi
  intro z hz
  unfold M.rowOf at hz
  split at hz
  · obtain rfl := List.mem_singleton.1 hz; exact h1
  · split at hz
    · obtain rfl := List.mem_singleton.1 hz; exact h2
    · obtain ⟨y, hy, rfl⟩ := List.mem_map.1 hz
      exact M.tI_in h hl h2 (by have := List.mem_range.1 hy; omega)
theorem raw_in {n : Nat} {xs : List Int} (h : M.InP n xs) (hl : xs.length = n * n) {kind i : Int} (hi : 0 ≤ i ∧ i < n) : ∀ x, x ≤ n → ∀ z ∈ M.rawTo n xs kind i x, 0 ≤ z ∧ z < n
  | 0, _, z, hz => by simp [M.rawTo] at hz
  | x + 1, hx, z, hz => by
    rcases List.mem_append.1 hz with hz | hz
    · exact raw_in h hl hi x (by omega) z hz
    · exact row_in h hl hi (by omega) z hz
theorem row_len (n : Nat) (xs : List Int) (kind i : Int) (x : Nat) : (M.rowOf n xs kind i x).length ≤ n + 1 := by
  unfold M.rowOf
  split
  · simp
  · split <;> simp
theorem row_pos {n : Nat} (hn : 1 ≤ n) (xs : List Int) (kind i : Int) (x : Nat) : 1 ≤ (M.rowOf n xs kind i x).length := by
  unfold M.rowOf
  split
  · simp
  · split <;> simp <;> omega
theorem raw_len (n : Nat) (xs : List Int) (kind i : Int) : ∀ x, (M.rawTo n xs kind i x).length ≤ x * (n + 1)
  | 0 => by simp [M.rawTo]
  | x + 1 => by
    have h1 := raw_len n xs kind i x
    have h2 := row_len n xs kind i x
    rw [M.rawTo, List.length_append, Nat.add_mul]
    omega
theorem raw_pos {n : Nat} (hn : 1 ≤ n) (xs : List Int) (kind i : Int) : ∀ x, 1 ≤ x → 1 ≤ (M.rawTo n xs kind i x).length
  | 0, h => by omega
  | x + 1, _ => by
    have h2 := row_pos hn xs kind i x
    rw [M.rawTo, List.length_append]
    omega
theorem ideal_len (n : Nat) (xs : List Int) (kind i : Int) : (M.ideal n xs kind i).length ≤ n := M.sel_len _ _
theorem ideal_collect {n : Nat} {xs : List Int} (h : M.InP n xs) (hl : xs.length = n * n) {kind i : Int} (hi : 0 ≤ i ∧ i < n) : Lib.compact (M.sortI (M.rawTo n xs kind i n)) = M.ideal n xs kind i := collect_law _ n (raw_in h hl hi n (Nat.le_refl _))
end Go.Proofs.Ytlohpphmamapeaa
