/-
  The plain law of ParseInt: what the digits spell, and which texts are an integer's own.
  Conditions: none; no program in this text.
-/
import Derived.Test.YtkdccehihpgcdaaDoorModel
import Derived.Lib.ItoaMem
import Derived.Lib.ItoaLen
import Derived.Lib.AtoiAllCases
namespace Go.Proofs.YtkdccehihpgcdaaDoor
set_option linter.unusedVariables false
set_option linter.unusedSimpArgs false

def M.dvalFrom (a : Nat) (l : List UInt8) : Nat := l.foldl (fun a c => a * 10 + (c.toNat - 48)) a
def M.dval (l : List UInt8) : Nat := M.dvalFrom 0 l
def M.IsInt (v : Int) : Prop := -9223372036854775808 ≤ v ∧ v ≤ 9223372036854775807
def M.parseInt (l : List UInt8) : Int × Bool := match Lib.atoiAll l with
  | .ok v => if Lib.itoa v = l then (v, true) else (0, false)
  | _ => (0, false)
theorem dval_snoc (l : List UInt8) (c : UInt8) : M.dval (l ++ [c]) = M.dval l * 10 + (c.toNat - 48) := by simp [M.dval, M.dvalFrom]
theorem dval_succ (l : List UInt8) (i : Nat) (h : i < l.length) : M.dval (l.take (i + 1)) = M.dval (l.take i) * 10 + (l[i].toNat - 48) := by rw [List.take_succ_eq_append_getElem h, dval_snoc]
theorem dvalFrom_le (l : List UInt8) : ∀ a, a ≤ M.dvalFrom a l := by
  induction l with
  | nil => intro a; exact Nat.le_refl _
  | cons c r ih =>
    intro a
    have h := ih (a * 10 + (c.toNat - 48))
    have e : M.dvalFrom a (c :: r) = M.dvalFrom (a * 10 + (c.toNat - 48)) r := rfl
    omega
theorem dval_take_le (l : List UInt8) (i : Nat) : M.dval (l.take i) ≤ M.dval l := by
  conv => rhs; rw [← List.take_append_drop i l]
  unfold M.dval M.dvalFrom
  rw [List.foldl_append]
  exact dvalFrom_le _ _
theorem digit_ofNat (x : Nat) (h : x < 10) : (UInt8.ofNat (48 + x)).toNat = 48 + x := by rw [UInt8.toNat_ofNat']; omega
theorem dec_all : ∀ u : Nat, (∀ c ∈ Lib.decDigits u, 48 ≤ c.toNat ∧ c.toNat ≤ 57) ∧ Lib.decDigits u ≠ [] ∧ M.dval (Lib.decDigits u) = u := by
  intro u
  induction u using Nat.strongRecOn with
  | _ u ih =>
    by_cases h : u < 10
    · rw [Lib.decDigits, dif_pos h]
      refine ⟨fun c hc => ?_, by simp, ?_⟩
      · obtain rfl := List.mem_singleton.1 hc
        have := digit_ofNat u h
        omega
      · have := digit_ofNat u h
        simp only [M.dval, M.dvalFrom, List.foldl_cons, List.foldl_nil]
        omega
    · obtain ⟨h1, h2, h3⟩ := ih (u / 10) (by omega)
      rw [Lib.decDigits, dif_neg h]
      have hd := digit_ofNat (u % 10) (by omega)
      refine ⟨fun c hc => ?_, by simp, ?_⟩
      · rcases List.mem_append.1 hc with hc | hc
        · exact h1 c hc
        · obtain rfl := List.mem_singleton.1 hc
          omega
      · rw [dval_snoc, h3]
        omega
theorem nDigits_bound : ∀ (k u : Nat), u < 10 ^ (k + 1) → Lib.nDigits u ≤ k + 1
  | 0, u, h => by rw [Lib.nDigits_small (by simpa using h)]; exact Nat.le_refl _
  | k + 1, u, h => by
    by_cases hs : u < 10
    · rw [Lib.nDigits_small hs]; omega
    · rw [Lib.nDigits_big hs]
      have := nDigits_bound k (u / 10) (by rw [Nat.pow_succ] at h; omega)
      omega
theorem dec_len19 (u : Nat) (h : u ≤ 9223372036854775808) : (Lib.decDigits u).length ≤ 19 := by
  rw [Lib.decDigits_length]
  exact nDigits_bound 18 u (by omega)
theorem dec_isDigits (u : Nat) : M.IsDigits (Lib.decDigits u) = true := by
  obtain ⟨h1, h2, _⟩ := dec_all u
  unfold M.IsDigits
  rw [Bool.and_eq_true, List.all_eq_true]
  refine ⟨by cases hh : Lib.decDigits u with
             | nil => exact absurd hh h2
             | cons a r => rfl, fun c hc => ?_⟩
  have := h1 c hc
  unfold M.isDig
  simp
  omega
theorem isDigits_at {l : List UInt8} (h : M.IsDigits l = true) {i : Nat} (hi : i < l.length) : 48 ≤ l[i].toNat ∧ l[i].toNat ≤ 57 := by
  unfold M.IsDigits at h
  have := List.all_eq_true.1 (Bool.and_eq_true_iff.1 h).2 l[i] (List.getElem_mem hi)
  unfold M.isDig at this
  simp at this
  omega
theorem parse10 : ∀ (l : List UInt8) (a : Nat), (∀ c ∈ l, 48 ≤ c.toNat ∧ c.toNat ≤ 57) → M.dvalFrom a l < 18446744073709551616 → Lib.parseUint10 a l = .ok (M.dvalFrom a l)
  | [], a, _, _ => rfl
  | c :: r, a, h, hv => by
    have hc := h c (by simp)
    have e : M.dvalFrom a (c :: r) = M.dvalFrom (a * 10 + (c.toNat - 48)) r := rfl
    have hle := dvalFrom_le r (a * 10 + (c.toNat - 48))
    rw [e] at hv ⊢
    rw [Lib.parseUint10, if_pos hc, if_neg (by omega), if_neg (by omega)]
    exact parse10 r _ (fun c' hc' => h c' (List.mem_cons_of_mem _ hc')) hv
theorem parseMag_dec (u : Nat) (h : u ≤ 9223372036854775808) : Lib.parseMag (Lib.decDigits u) = .ok u := by
  obtain ⟨h1, h2, h3⟩ := dec_all u
  unfold Lib.parseMag
  rw [if_neg h2, parse10 _ _ h1 (by unfold M.dval at h3; omega)]
  unfold M.dval at h3
  rw [h3]
theorem atoi_itoa (v : Int) (h : M.IsInt v) : Lib.atoiAll (Lib.itoa v) = .ok v := by
  obtain ⟨h0, h1⟩ := h
  by_cases hv : v < 0
  · obtain ⟨u, hu⟩ := Int.eq_ofNat_of_zero_le (show 0 ≤ -v by omega)
    have hu' : v = -(u : Int) := by omega
    subst hu'
    rw [Lib.itoa_neg u (by omega), Lib.atoiAll_minus, parseMag_dec u (by omega)]
    unfold Lib.signed
    simp only
    rw [if_neg (by omega)]
  · obtain ⟨u, rfl⟩ := Int.eq_ofNat_of_zero_le (show 0 ≤ v by omega)
    rw [Lib.itoa_nonneg]
    obtain ⟨d1, d2, _⟩ := dec_all u
    have hp := parseMag_dec u (by omega)
    cases hd : Lib.decDigits u with
    | nil => exact absurd hd d2
    | cons c r =>
      rw [hd] at d1 hp
      have hc := d1 c (by simp)
      rw [Lib.atoiAll_plain c r (by omega) (by omega), hp]
      unfold Lib.signless
      simp only
      rw [if_neg (by omega)]
theorem itoa_inj {v v' : Int} (h : M.IsInt v) (h' : M.IsInt v') (e : Lib.itoa v = Lib.itoa v') : v = v' := by
  have h1 := atoi_itoa v h
  rw [e, atoi_itoa v' h'] at h1
  injection h1 with h1
  exact h1.symm
theorem parse_itoa (v : Int) (h : M.IsInt v) : M.parseInt (Lib.itoa v) = (v, true) := by
  unfold M.parseInt
  rw [atoi_itoa v h]
  simp
theorem parse_or (l : List UInt8) : (∃ v, M.IsInt v ∧ Lib.itoa v = l ∧ M.parseInt l = (v, true)) ∨ ((∀ v, M.IsInt v → Lib.itoa v ≠ l) ∧ M.parseInt l = (0, false)) := by
  by_cases h : ∃ v, M.IsInt v ∧ Lib.itoa v = l
  · obtain ⟨v, h1, rfl⟩ := h
    exact Or.inl ⟨v, h1, rfl, parse_itoa v h1⟩
  · refine Or.inr ⟨fun v h1 h2 => h ⟨v, h1, h2⟩, ?_⟩
    unfold M.parseInt
    cases ha : Lib.atoiAll l with
    | ok v => exact if_neg fun e => h ⟨v, Lib.atoiAll_bounds ha, e⟩
    | _ => rfl
/-- The sign and the digits of a text. -/
def M.signed (sg : Bool) (t : List UInt8) : List UInt8 := if sg = true then 45 :: t else t
theorem itoa_split {v : Int} {sg : Bool} {t : List UInt8} (hn : sg = false → t.head? ≠ some 45) (h : Lib.itoa v = M.signed sg t) : t = Lib.decDigits v.natAbs ∧ (sg = true ↔ v < 0) := by
  by_cases hv : v < 0
  · obtain ⟨u, hu⟩ := Int.eq_ofNat_of_zero_le (show 0 ≤ -v by omega)
    have hu' : v = -(u : Int) := by omega
    subst hu'
    rw [Lib.itoa_neg u (by omega)] at h
    have hab : (-(u : Int)).natAbs = u := by omega
    rw [hab]
    cases sg with
    | true =>
      unfold M.signed at h
      simp only [if_true] at h
      injection h with h1 h2
      exact ⟨h2.symm, by simp; omega⟩
    | false =>
      unfold M.signed at h
      simp only [Bool.false_eq_true, if_false] at h
      exact absurd (by rw [← h]; rfl) (hn rfl)
  · obtain ⟨u, rfl⟩ := Int.eq_ofNat_of_zero_le (show 0 ≤ v by omega)
    rw [Lib.itoa_nonneg] at h
    have hab : ((u : Int)).natAbs = u := by omega
    rw [hab]
    cases sg with
    | true =>
      unfold M.signed at h
      simp only [if_true] at h
      have := (dec_all u).1 45 (by rw [h]; simp)
      simp at this
    | false =>
      unfold M.signed at h
      simp only [Bool.false_eq_true, if_false] at h
      exact ⟨h.symm, by simp⟩
section
variable {sg : Bool} {t : List UInt8}
theorem pi_bad (hn : sg = false → t.head? ≠ some 45) (h : M.IsDigits t = false ∨ 19 < t.length) : M.parseInt (M.signed sg t) = (0, false) := by
  rcases parse_or (M.signed sg t) with ⟨v, hv, he, hp⟩ | ⟨_, hp⟩
  · obtain ⟨rfl, _⟩ := itoa_split hn he
    have h1 := dec_isDigits v.natAbs
    have h2 := dec_len19 v.natAbs (by have := hv.1; have := hv.2; omega)
    rcases h with h | h
    · rw [h] at h1; cases h1
    · omega
  · exact hp
theorem pi_over (hn : sg = false → t.head? ≠ some 45) {i : Nat} (h : 9223372036854775808 < M.dval (t.take i)) : M.parseInt (M.signed sg t) = (0, false) := by
  rcases parse_or (M.signed sg t) with ⟨v, hv, he, hp⟩ | ⟨_, hp⟩
  · obtain ⟨rfl, _⟩ := itoa_split hn he
    have h1 := dval_take_le (Lib.decDigits v.natAbs) i
    rw [(dec_all v.natAbs).2.2] at h1
    have := hv.1
    have := hv.2
    omega
  · exact hp
theorem pi_edge (hn : t.head? ≠ some 45) (h : M.dval t = 9223372036854775808) : M.parseInt (M.signed false t) = (0, false) := by
  rcases parse_or (M.signed false t) with ⟨v, hv, he, hp⟩ | ⟨_, hp⟩
  · obtain ⟨rfl, hs⟩ := itoa_split (fun _ => hn) he
    rw [(dec_all v.natAbs).2.2] at h
    have := hv.1
    have := hv.2
    have : ¬ v < 0 := fun e => by have := hs.2 e; cases this
    omega
  · exact hp
theorem pi_end (hn : sg = false → t.head? ≠ some 45) {n : Int} (hi : M.IsInt n) (h : n = if sg = true then -(M.dval t : Int) else (M.dval t : Int)) : M.parseInt (M.signed sg t) = if Lib.itoa n = M.signed sg t then (n, true) else (0, false) := by
  rcases parse_or (M.signed sg t) with ⟨v, hv, he, hp⟩ | ⟨hno, hp⟩
  · obtain ⟨rfl, hs⟩ := itoa_split hn he
    rw [(dec_all v.natAbs).2.2] at h
    have e : n = v := by
      cases sg with
      | true =>
        have := hs.1 rfl
        simp only [if_true] at h
        omega
      | false =>
        have : ¬ v < 0 := fun e => by have := hs.2 e; cases this
        simp only [Bool.false_eq_true, if_false] at h
        omega
    subst e
    rw [hp, if_pos he]
  · rw [hp, if_neg (hno n hi)]
end
end Go.Proofs.YtkdccehihpgcdaaDoor
