/-
  The plain law of the numbering of classes by their keys.
  Conditions: none; no program in this text.
-/
import Derived.Test.YtlohpphmamapeaaIdealM
import Derived.Test.YtlohpphmamapeaaComm
namespace Go.Proofs.Ytlohpphmamapeaa
set_option linter.unusedVariables false
set_option linter.unusedSimpArgs false

/-- The key of an element: the list of its ideal, or of both with a number between them that is in none. -/
def M.key (n : Nat) (xs : List Int) (kind : Int) (i : Nat) : List Int := if kind = 4 then M.ideal n xs 1 i ++ ([-1] ++ M.ideal n xs 2 i) else M.ideal n xs kind i
/-- The first elements of the classes met so far, and each element's class. -/
def M.cls (key : Nat → List Int) : Nat → List Nat × List Nat
  | 0 => ([], [])
  | i + 1 => match (M.cls key i).1.findIdx? (fun f => decide (key i = key f)) with
    | some c => ((M.cls key i).1, (M.cls key i).2 ++ [c])
    | none => ((M.cls key i).1 ++ [i], (M.cls key i).2 ++ [(M.cls key i).1.length])
structure CInv (key : Nat → List Int) (i : Nat) (st : List Nat × List Nat) : Prop where
  len : st.2.length = i
  cls : ∀ k, k < i → ∃ c f, st.2[k]? = some c ∧ st.1[c]? = some f ∧ key k = key f
  one : ∀ (c f c' f' : Nat), st.1[c]? = some f → st.1[c']? = some f' → key f = key f' → c = c'
  lt : ∀ f ∈ st.1, f < i
  most : st.1.length ≤ i
theorem CInv.found {key : Nat → List Int} {i k : Nat} {st : List Nat × List Nat} (h : CInv key i st) (hk : k < i) (he : key i = key k) {c : Nat} (hc : st.2[k]? = some c) : st.1.findIdx? (fun f => decide (key i = key f)) = some c := by
  obtain ⟨c', f, h1, h2, h3⟩ := h.cls k hk
  have e : c' = c := by rw [hc] at h1; injection h1 with h1; exact h1.symm
  subst e
  rw [List.findIdx?_eq_some_iff_getElem]
  obtain ⟨hl, hg⟩ := List.getElem?_eq_some_iff.1 h2
  refine ⟨hl, by rw [hg]; exact decide_eq_true (he.trans h3), fun j hj => ?_⟩
  rw [Bool.not_eq_true, decide_eq_false_iff_not]
  intro hkj
  have := h.one j _ c' f (List.getElem?_eq_getElem (by omega)) h2 (hkj.symm.trans (he.trans h3))
  omega
theorem CInv.none {key : Nat → List Int} {i : Nat} {st : List Nat × List Nat} (h : CInv key i st) (hn : ∀ k, k < i → key i ≠ key k) : st.1.findIdx? (fun f => decide (key i = key f)) = none := by
  rw [List.findIdx?_eq_none_iff]
  intro f hf
  exact decide_eq_false (hn f (h.lt f hf))
theorem CInv.bound {key : Nat → List Int} {i k c : Nat} {st : List Nat × List Nat} (h : CInv key i st) (hk : st.2[k]? = some c) : c < st.1.length := by
  have hl := (List.getElem?_eq_some_iff.1 hk).1
  obtain ⟨c', f, h1, h2, _⟩ := h.cls k (by rw [← h.len]; exact hl)
  rw [hk] at h1
  injection h1 with h1
  subst h1
  exact (List.getElem?_eq_some_iff.1 h2).1
theorem cls_inv (key : Nat → List Int) : ∀ i, CInv key i (M.cls key i)
  | 0 => ⟨rfl, fun k h => absurd h (by omega), fun c f c' f' h => by simp [M.cls] at h, fun f h => by simp [M.cls] at h, by simp [M.cls]⟩
  | i + 1 => by
    have h := cls_inv key i
    rw [M.cls]
    generalize M.cls key i = st at *
    cases hf : st.1.findIdx? (fun f => decide (key i = key f)) with
    | some c =>
      obtain ⟨hl, hp, _⟩ := List.findIdx?_eq_some_iff_getElem.1 hf
      have hp := of_decide_eq_true hp
      refine ⟨by simp [h.len], fun k hk => ?_, h.one, fun f hf => by have := h.lt f hf; omega, by have := h.most; simp only []; omega⟩
      show ∃ c' f, (st.2 ++ [c])[k]? = some c' ∧ st.1[c']? = some f ∧ key k = key f
      rw [List.getElem?_append]
      split
      · rename_i h1
        exact h.cls k (by rw [← h.len]; exact h1)
      · rename_i h1
        have : k = i := by have := h.len; omega
        subst this
        exact ⟨c, st.1[c], by rw [h.len, Nat.sub_self]; rfl, List.getElem?_eq_getElem hl, hp⟩
    | none =>
      have hno : ∀ f ∈ st.1, key i ≠ key f := fun f hm => by
        have := List.findIdx?_eq_none_iff.1 hf f hm
        exact of_decide_eq_false this
      refine ⟨by simp [h.len], fun k hk => ?_, fun c f c' f' h1 h2 h3 => ?_, fun f hf => ?_, by have := h.most; simp; omega⟩
      · show ∃ c' f, (st.2 ++ [st.1.length])[k]? = some c' ∧ (st.1 ++ [i])[c']? = some f ∧ key k = key f
        rw [List.getElem?_append]
        split
        · rename_i h1
          obtain ⟨c, f, e1, e2, e3⟩ := h.cls k (by rw [← h.len]; exact h1)
          exact ⟨c, f, e1, by rw [List.getElem?_append_left (List.getElem?_eq_some_iff.1 e2).1]; exact e2, e3⟩
        · rename_i h1
          have : k = i := by have := h.len; omega
          subst this
          exact ⟨st.1.length, k, by rw [h.len, Nat.sub_self]; rfl, by rw [List.getElem?_append_right (Nat.le_refl _), Nat.sub_self]; rfl, rfl⟩
      · have h1 : (st.1 ++ [i])[c]? = some f := h1
        have h2 : (st.1 ++ [i])[c']? = some f' := h2
        have hc := (List.getElem?_eq_some_iff.1 h1).1
        have hc' := (List.getElem?_eq_some_iff.1 h2).1
        simp only [List.length_append, List.length_cons, List.length_nil] at hc hc'
        have old : ∀ {c f : Nat}, (st.1 ++ [i])[c]? = some f → c < st.1.length → st.1[c]? = some f := fun h hl => by rwa [List.getElem?_append_left hl] at h
        have new : ∀ {c f : Nat}, (st.1 ++ [i])[c]? = some f → ¬ c < st.1.length → c < st.1.length + 1 → c = st.1.length ∧ f = i := fun {c f} h hl hl2 => by
          have e : c = st.1.length := by omega
          subst e
          rw [List.getElem?_append_right (Nat.le_refl _), Nat.sub_self] at h
          exact ⟨rfl, by simpa using h.symm⟩
        by_cases a : c < st.1.length
        · by_cases b : c' < st.1.length
          · exact h.one c f c' f' (old h1 a) (old h2 b) h3
          · obtain ⟨_, rfl⟩ := new h2 b hc'
            exact absurd h3.symm (hno f (List.mem_of_getElem? (old h1 a)))
        · obtain ⟨e1, rfl⟩ := new h1 a hc
          by_cases b : c' < st.1.length
          · exact absurd h3 (hno f' (List.mem_of_getElem? (old h2 b)))
          · obtain ⟨e2, _⟩ := new h2 b hc'
            omega
      · rcases List.mem_append.1 hf with hf | hf
        · have := h.lt f hf; omega
        · have := List.mem_singleton.1 hf; omega
theorem cls_found {key : Nat → List Int} {i c : Nat} (h : (M.cls key i).1.findIdx? (fun f => decide (key i = key f)) = some c) : M.cls key (i + 1) = ((M.cls key i).1, (M.cls key i).2 ++ [c]) := by rw [M.cls, h]
theorem cls_none {key : Nat → List Int} {i : Nat} (h : (M.cls key i).1.findIdx? (fun f => decide (key i = key f)) = none) : M.cls key (i + 1) = ((M.cls key i).1 ++ [i], (M.cls key i).2 ++ [(M.cls key i).1.length]) := by rw [M.cls, h]
def M.ClassesOf (k : Int) (xs : List Int) (kind : Int) : List Int := if M.TableOk k xs = true ∧ 1 ≤ kind ∧ kind ≤ 4 then (M.cls (M.key k.toNat xs kind) k.toNat).2.map Int.ofNat else []
theorem app_sep {a b c d : List Int} (ha : ∀ x ∈ a, 0 ≤ x) (hc : ∀ x ∈ c, 0 ≤ x) (h : a ++ ([-1] ++ b) = c ++ ([-1] ++ d)) : a = c ∧ b = d := by
  induction a generalizing c with
  | nil =>
    cases c with
    | nil => simp at h; exact ⟨rfl, h⟩
    | cons y c =>
      simp at h
      have := hc y (by simp)
      omega
  | cons x a ih =>
    cases c with
    | nil =>
      simp at h
      have := ha x (by simp)
      omega
    | cons y c =>
      simp only [List.cons_append, List.cons.injEq] at h
      obtain ⟨e1, e2⟩ := ih (fun z hz => ha z (by simp [hz])) (c := c) (fun z hz => hc z (by simp [hz])) h.2
      exact ⟨by rw [h.1, e1], e2⟩
theorem sel_nonneg (p : Nat → Bool) : ∀ n, ∀ x ∈ M.sel p n, 0 ≤ x
  | 0 => fun x h => by simp [M.sel] at h
  | n + 1 => fun x h => by
    cases hp : p n with
    | true =>
      rw [M.sel_yes hp] at h
      rcases List.mem_append.1 h with h | h
      · exact sel_nonneg p n x h
      · have := List.mem_singleton.1 h; omega
    | false =>
      rw [M.sel_no hp] at h
      exact sel_nonneg p n x h
theorem key_eq4 (n : Nat) (xs : List Int) (i k : Nat) : decide (M.key n xs 4 i = M.key n xs 4 k) = (decide (M.ideal n xs 1 i = M.ideal n xs 1 k) && decide (M.ideal n xs 2 i = M.ideal n xs 2 k)) := by
  rw [Bool.eq_iff_iff, Bool.and_eq_true, decide_eq_true_iff, decide_eq_true_iff, decide_eq_true_iff]
  unfold M.key
  rw [if_pos rfl, if_pos rfl]
  constructor
  · exact fun h => app_sep (sel_nonneg _ _) (sel_nonneg _ _) h
  · rintro ⟨h1, h2⟩
    rw [h1, h2]
theorem key_len (n : Nat) (xs : List Int) (kind : Int) (i : Nat) : (M.key n xs kind i).length ≤ 2 * n + 1 := by
  unfold M.key
  split
  · have h1 := ideal_len n xs 1 i
    have h2 := ideal_len n xs 2 i
    simp
    omega
  · have := ideal_len n xs kind i
    omega
theorem classes_len (k : Int) (xs : List Int) (kind : Int) : (M.ClassesOf k xs kind).length ≤ 40 := by
  unfold M.ClassesOf
  split
  · rename_i h
    have h1 := (tableOk_of h.1).1
    rw [List.length_map, (cls_inv _ _).len]
    omega
  · simp
end Go.Proofs.Ytlohpphmamapeaa
