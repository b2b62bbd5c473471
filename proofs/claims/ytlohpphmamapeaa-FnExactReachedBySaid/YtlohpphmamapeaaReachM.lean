/-
  The plain law of the words that reach the elements of a table: a queue of elements, each with its word.
  Conditions: none; no program in this text.
-/
import Derived.Test.YtlohpphmamapeaaModTab
namespace Go.Proofs.Ytlohpphmamapeaa
set_option linter.unusedVariables false
set_option linter.unusedSimpArgs false

abbrev M.Tbl : Type := List (Option (List UInt8))
def M.bz (n : Nat) (xs ys : List Int) (x j : Nat) : Nat := (M.tI n xs (x : Int) (M.tAt ys j)).toNat
def M.bword (T : M.Tbl) (x j : Nat) : List UInt8 := (T.getD x none).getD [] ++ [UInt8.ofNat (97 + j)]
def M.bvis (n : Nat) (xs ys : List Int) (x j : Nat) (st : List Nat × M.Tbl) : List Nat × M.Tbl :=
  if (st.2.getD (M.bz n xs ys x j) none).isSome = true then st else (st.1 ++ [M.bz n xs ys x j], st.2.set (M.bz n xs ys x j) (some (M.bword st.2 x j)))
def M.brow (n : Nat) (xs ys : List Int) (x : Nat) (st : List Nat × M.Tbl) : Nat → List Nat × M.Tbl
  | 0 => st
  | j + 1 => M.bvis n xs ys x j (M.brow n xs ys x st j)
def M.binit (n : Nat) : List Nat × M.Tbl := ([0], (List.replicate n none).set 0 (some []))
def M.brun (n : Nat) (xs ys : List Int) : Nat → List Nat × M.Tbl
  | 0 => M.binit n
  | a + 1 => match (M.brun n xs ys a).1[a]? with
    | some x => M.brow n xs ys x (M.brun n xs ys a) ys.length
    | none => M.brun n xs ys a
structure BInv (n : Nat) (st : List Nat × M.Tbl) : Prop where
  len : st.2.length = n
  cnt : st.2.countP Option.isSome = st.1.length
  mem : ∀ x ∈ st.1, x < n ∧ (st.2.getD x none).isSome = true
  word : ∀ (z : Nat) (w : List UInt8), st.2[z]? = some (some w) → w ≠ [45] ∧ w.length < st.1.length
  ne : 0 < st.1.length
theorem BInv.le {n : Nat} {st : List Nat × M.Tbl} (h : BInv n st) : st.1.length ≤ n := by
  rw [← h.cnt, ← h.len]
  exact List.countP_le_length
theorem letter_ne (j : Nat) (hj : j < 4) : UInt8.ofNat (97 + j) ≠ 45 := by
  intro e
  have := congrArg UInt8.toNat e
  rw [UInt8.toNat_ofNat'] at this
  have e2 : (45 : UInt8).toNat = 45 := rfl
  omega
theorem binit_inv {n : Nat} (hn : 1 ≤ n) : BInv n (M.binit n) := by
  obtain ⟨m, rfl⟩ : ∃ m, n = m + 1 := ⟨n - 1, by omega⟩
  unfold M.binit
  rw [List.replicate_succ, List.set_cons_zero]
  refine ⟨by simp, ?_, ?_, ?_, by simp⟩
  · rw [List.countP_cons_of_pos (by rfl), List.countP_eq_zero.2 (fun a ha => by rw [List.eq_of_mem_replicate ha]; simp)]
    rfl
  · intro x hx
    obtain rfl := List.mem_singleton.1 hx
    exact ⟨by omega, rfl⟩
  · intro z w hz
    cases z with
    | zero => simp at hz; subst hz; simp
    | succ z =>
      rw [List.getElem?_cons_succ, List.getElem?_replicate] at hz
      split at hz <;> cases hz
theorem countP_set_new {p : Option (List UInt8) → Bool} : ∀ (l : M.Tbl) (i : Nat) (a : Option (List UInt8)) (b : Option (List UInt8)), l[i]? = some b → p b = false → p a = true → (l.set i a).countP p = l.countP p + 1
  | [], i, a, b, h, _, _ => by simp at h
  | x :: l, 0, a, b, h, hb, ha => by
    have e : x = b := by simpa using h
    subst e
    rw [List.set_cons_zero, List.countP_cons_of_pos ha, List.countP_cons_of_neg (by rw [hb]; simp)]
  | x :: l, i + 1, a, b, h, hb, ha => by
    have ih := countP_set_new l i a b (by simpa using h) hb ha
    rw [List.set_cons_succ, List.countP_cons, List.countP_cons, ih]
    omega
theorem bvis_inv {n : Nat} {xs ys : List Int} {x j : Nat} {st : List Nat × M.Tbl} (h : BInv n st) (hz : M.bz n xs ys x j < n) (hx : x ∈ st.1) (hj : j < 4) : BInv n (M.bvis n xs ys x j st) := by
  unfold M.bvis
  split
  · exact h
  · rename_i hno
    generalize M.bz n xs ys x j = z at *
    obtain ⟨h1, h2, h3, h4, h5⟩ := h
    have hzl : z < st.2.length := by omega
    have hg : st.2[z]? = some none := by
      rw [List.getElem?_eq_getElem hzl]
      cases hc : st.2[z] with
      | none => rfl
      | some w => exact absurd (by simp [List.getD_eq_getElem?_getD, List.getElem?_eq_getElem hzl, hc]) hno
    have hw : M.bword st.2 x j ≠ [45] ∧ (M.bword st.2 x j).length < st.1.length + 1 := by
      unfold M.bword
      obtain ⟨hxn, hxs⟩ := h3 x hx
      obtain ⟨w, hw⟩ := Option.isSome_iff_exists.1 hxs
      rw [hw]
      have hgw : st.2[x]? = some (some w) := by
        rw [List.getD_eq_getElem?_getD] at hw
        cases hc : st.2[x]? with
        | none => rw [hc] at hw; cases hw
        | some v => rw [hc] at hw; simp at hw; rw [hw]
      have hl := (h4 x w hgw).2
      refine ⟨fun e => ?_, by simp; omega⟩
      have hlen := congrArg List.length e
      simp at hlen
      subst hlen
      exact letter_ne j hj (List.cons.inj (show [UInt8.ofNat (97 + j)] = [45] from e)).1
    refine ⟨by simp [h1], ?_, ?_, ?_, by simp⟩
    · show (st.2.set z (some (M.bword st.2 x j))).countP Option.isSome = (st.1 ++ [z]).length
      rw [countP_set_new st.2 z _ none hg rfl rfl, h2, List.length_append]
      rfl
    · intro y hy
      show y < n ∧ ((st.2.set z (some (M.bword st.2 x j))).getD y none).isSome = true
      rw [List.getD_eq_getElem?_getD, List.getElem?_set]
      rcases List.mem_append.1 hy with hy | hy
      · obtain ⟨h6, h7⟩ := h3 y hy
        refine ⟨h6, ?_⟩
        split
        · first
          | rfl
          | (split <;> first | rfl | omega)
        · rw [← List.getD_eq_getElem?_getD]; exact h7
      · obtain rfl := List.mem_singleton.1 hy
        exact ⟨hz, by rw [if_pos rfl, if_pos hzl]; rfl⟩
    · intro y w hy
      have hy : (st.2.set z (some (M.bword st.2 x j)))[y]? = some (some w) := hy
      show w ≠ [45] ∧ w.length < (st.1 ++ [z]).length
      rw [List.getElem?_set] at hy
      rw [List.length_append]
      split at hy
      · try rw [if_pos hzl] at hy
        injection hy with hy
        injection hy with hy
        subst hy
        exact ⟨hw.1, by simpa using hw.2⟩
      · obtain ⟨h6, h7⟩ := h4 y w hy
        exact ⟨h6, by simp; omega⟩
theorem bvis_mem {n : Nat} {xs ys : List Int} {x j y : Nat} {st : List Nat × M.Tbl} (h : y ∈ st.1) : y ∈ (M.bvis n xs ys x j st).1 := by
  unfold M.bvis
  split
  · exact h
  · exact List.mem_append_left _ h
theorem bvis_pre {n : Nat} {xs ys : List Int} {x j a : Nat} {st : List Nat × M.Tbl} {y : Nat} (h : st.1[a]? = some y) : (M.bvis n xs ys x j st).1[a]? = some y := by
  unfold M.bvis
  split
  · exact h
  · have hlt := (List.getElem?_eq_some_iff.1 h).1
    show (st.1 ++ [M.bz n xs ys x j])[a]? = some y
    rw [List.getElem?_append_left hlt]
    exact h
theorem brow_inv {n : Nat} {xs ys : List Int} {x : Nat} {st : List Nat × M.Tbl} (h : BInv n st) (hz : ∀ j, j < ys.length → M.bz n xs ys x j < n) (hx : x ∈ st.1) (hq : ys.length ≤ 4) : ∀ j, j ≤ ys.length → BInv n (M.brow n xs ys x st j) ∧ (∀ y ∈ st.1, y ∈ (M.brow n xs ys x st j).1) ∧ ∀ (a y : Nat), st.1[a]? = some y → (M.brow n xs ys x st j).1[a]? = some y
  | 0, _ => ⟨h, fun _ h => h, fun _ _ h => h⟩
  | j + 1, hj => by
    obtain ⟨h1, h2, h3⟩ := brow_inv h hz hx hq j (by omega)
    exact ⟨bvis_inv h1 (hz j (by omega)) (h2 x hx) (by omega), fun y hy => bvis_mem (h2 y hy), fun a y hy => bvis_pre (h3 a y hy)⟩
theorem brun_step {n : Nat} {xs ys : List Int} {a x : Nat} (h : (M.brun n xs ys a).1[a]? = some x) : M.brun n xs ys (a + 1) = M.brow n xs ys x (M.brun n xs ys a) ys.length := by rw [M.brun, h]
theorem brun_inv {n : Nat} {xs ys : List Int} (hn : 1 ≤ n) (hz : ∀ x j, x < n → j < ys.length → M.bz n xs ys x j < n) (hq : ys.length ≤ 4) : ∀ a, BInv n (M.brun n xs ys a)
  | 0 => binit_inv hn
  | a + 1 => by
    have h := brun_inv hn hz hq a
    rw [M.brun]
    cases hx : (M.brun n xs ys a).1[a]? with
    | none => exact h
    | some x =>
      have hm := List.mem_of_getElem? hx
      exact (brow_inv h (fun j hj => hz x j (h.mem x hm).1 hj) hm hq ys.length (Nat.le_refl _)).1
theorem brun_stop {n : Nat} {xs ys : List Int} {a : Nat} (h : (M.brun n xs ys a).1.length ≤ a) : ∀ m, M.brun n xs ys (a + m) = M.brun n xs ys a
  | 0 => rfl
  | m + 1 => by
    have ih := brun_stop h m
    rw [← Nat.add_assoc, M.brun, ih, List.getElem?_eq_none (by omega)]
theorem brun_end {n : Nat} {xs ys : List Int} {a : Nat} (ha : a ≤ n) (h : (M.brun n xs ys a).1.length ≤ a) : M.brun n xs ys n = M.brun n xs ys a := by
  obtain ⟨m, rfl⟩ : ∃ m, n = a + m := ⟨n - a, by omega⟩
  exact brun_stop h m
def M.reach (n : Nat) (xs ys : List Int) (z : Nat) : Bool := ((M.brun n xs ys n).2.getD z none).isSome
end Go.Proofs.Ytlohpphmamapeaa
