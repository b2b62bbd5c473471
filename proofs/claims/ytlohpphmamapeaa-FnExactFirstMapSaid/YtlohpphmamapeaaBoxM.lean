/-
  The plain law of the lists of numbers below a bound, in order.
  Conditions: none; no program in this text.
-/
import Derived.Test.YtlohpphmamapeaaSatR
import Derived.Test.YtlohpphmamapeaaSatC
namespace Go.Proofs.Ytlohpphmamapeaa
set_option linter.unusedVariables false
set_option linter.unusedSimpArgs false

/-- The list with a number: its digits, the greatest first. -/
def M.imgs (n : Nat) : Nat → Nat → List Int
  | 0, _ => []
  | m + 1, i => M.imgs n m (i / n) ++ [((i % n : Nat) : Int)]
theorem imgs_len (n : Nat) : ∀ m i, (M.imgs n m i).length = m
  | 0, i => rfl
  | m + 1, i => by rw [M.imgs, List.length_append, imgs_len n m]; rfl
theorem imgs_in {n : Nat} (hn : 0 < n) : ∀ m i, ∀ z ∈ M.imgs n m i, 0 ≤ z ∧ z < n
  | 0, i, z, h => by simp [M.imgs] at h
  | m + 1, i, z, h => by
    rw [M.imgs] at h
    rcases List.mem_append.1 h with h | h
    · exact imgs_in hn m _ z h
    · rw [List.mem_singleton.1 h]
      have := Nat.mod_lt i hn
      omega
theorem imgs_zero (n : Nat) : ∀ m, M.imgs n m 0 = List.replicate m 0
  | 0 => rfl
  | m + 1 => by rw [M.imgs, Nat.zero_div, imgs_zero n m, Nat.zero_mod, List.replicate_succ']; rfl
theorem imgs_mul {n : Nat} (hn : 0 < n) (r : Nat) : ∀ q j, M.imgs n (r + q) (j * n ^ q) = M.imgs n r j ++ List.replicate q 0
  | 0, j => by simp
  | q + 1, j => by
    rw [← Nat.add_assoc, M.imgs, Nat.pow_succ, ← Nat.mul_assoc, Nat.mul_div_cancel _ hn, imgs_mul hn r q j, Nat.mul_mod_left, List.replicate_succ', List.append_assoc]
    rfl
/-- The list after q digits from the end have been set to zero. -/
def M.boxAt (n m i q : Nat) : List Int := M.imgs n (m - q) (i / n ^ q) ++ List.replicate q 0
theorem boxAt_zero (n m i : Nat) : M.boxAt n m i 0 = M.imgs n m i := by simp [M.boxAt]
theorem boxAt_len {n m i q : Nat} (h : q ≤ m) : (M.boxAt n m i q).length = m := by simp [M.boxAt, imgs_len]; omega
theorem boxAt_split {n m i q : Nat} (h : q < m) : M.boxAt n m i q = M.imgs n (m - (q + 1)) (i / n ^ (q + 1)) ++ (((i / n ^ q % n : Nat) : Int) :: List.replicate q 0) := by
  unfold M.boxAt
  obtain ⟨r, hr⟩ : ∃ r, m - q = r + 1 := ⟨m - q - 1, by omega⟩
  have e : m - (q + 1) = r := by omega
  rw [hr, e, M.imgs, Nat.div_div_eq_div_mul, ← Nat.pow_succ, List.append_assoc]
  rfl
theorem boxAt_get {n m i q : Nat} (h : q < m) : (M.boxAt n m i q)[m - 1 - q]? = some ((i / n ^ q % n : Nat) : Int) := by
  rw [boxAt_split h, List.getElem?_append_right (by rw [imgs_len]; omega), imgs_len, show m - 1 - q - (m - (q + 1)) = 0 by omega]
  rfl
theorem boxAt_set {n m i q : Nat} (h : q < m) (v : Int) : (M.boxAt n m i q).set (m - 1 - q) v = M.imgs n (m - (q + 1)) (i / n ^ (q + 1)) ++ (v :: List.replicate q 0) := by
  rw [boxAt_split h, List.set_append_right _ _ (by rw [imgs_len]; omega), imgs_len, show m - 1 - q - (m - (q + 1)) = 0 by omega]
  rfl
theorem boxAt_next {n m i q : Nat} (h : q < m) : (M.boxAt n m i q).set (m - 1 - q) 0 = M.boxAt n m i (q + 1) := by
  rw [boxAt_set h, M.boxAt, List.replicate_succ]
/-- All digits so far are the greatest ones. -/
def M.Full (n i q : Nat) : Prop := i % n ^ q + 1 = n ^ q
theorem full_zero (n i : Nat) : M.Full n i 0 := by unfold M.Full; rw [Nat.pow_zero, Nat.mod_one]
theorem full_succ {n i q : Nat} (h : M.Full n i q) (hd : i / n ^ q % n + 1 = n) : M.Full n i (q + 1) := by
  unfold M.Full at *
  rw [Nat.pow_succ, Nat.mod_mul]
  have e : i / n ^ q % n = n - 1 := by omega
  rw [e]
  have hn : 1 ≤ n := by omega
  have h2 : n ^ q * (n - 1) + n ^ q = n ^ q * n := by
    have := Nat.mul_succ (n ^ q) (n - 1)
    rw [show (n - 1).succ = n by omega] at this
    exact this.symm
  omega
theorem full_end {n m i : Nat} (h : M.Full n i m) (hi : i < n ^ m) : i + 1 = n ^ m := by
  unfold M.Full at h
  rw [Nat.mod_eq_of_lt hi] at h
  exact h
theorem box_up {n m i q : Nat} (hn : 0 < n) (hq : q < m) (h : M.Full n i q) (hd : i / n ^ q % n + 1 < n) : (M.boxAt n m i q).set (m - 1 - q) (((i / n ^ q % n : Nat) : Int) + 1) = M.imgs n m (i + 1) := by
  rw [boxAt_set hq]
  have hp : 0 < n ^ q := Nat.pow_pos hn
  have e1 : i + 1 = (i / n ^ q + 1) * n ^ q := by
    unfold M.Full at h
    have := Nat.div_add_mod i (n ^ q)
    rw [Nat.add_mul, Nat.one_mul, Nat.mul_comm]
    omega
  have e2 : m = (m - q) + q := by omega
  have h3 : M.imgs n m (i + 1) = M.imgs n (m - q) (i / n ^ q + 1) ++ List.replicate q 0 := by
    rw [e1]
    conv => lhs; rw [e2]
    exact imgs_mul hn (m - q) q _
  rw [h3]
  obtain ⟨r, hr⟩ : ∃ r, m - q = r + 1 := ⟨m - q - 1, by omega⟩
  have e : m - (q + 1) = r := by omega
  generalize hj : i / n ^ q = j at *
  have hj2 : i / n ^ (q + 1) = j / n := by rw [Nat.pow_succ, ← Nat.div_div_eq_div_mul, hj]
  have hdm := Nat.div_add_mod j n
  have hs : (j + 1) / n = j / n ∧ (j + 1) % n = j % n + 1 := by
    have e4 : j + 1 = (j % n + 1) + n * (j / n) := by omega
    rw [e4, Nat.add_mul_div_left _ _ hn, Nat.add_mul_mod_self_left, Nat.div_eq_of_lt hd, Nat.mod_eq_of_lt hd]
    omega
  rw [hr, e, M.imgs, hs.1, hs.2, hj2, List.append_assoc]
  have e5 : ((j % n : Nat) : Int) + 1 = ((j % n + 1 : Nat) : Int) := by omega
  rw [e5]
  rfl
theorem box_lt {n m i q : Nat} (hn : 0 < n) (hq : q < m) (h : M.Full n i q) (hd : i / n ^ q % n + 1 < n) (hi : i < n ^ m) : i + 1 < n ^ m := by
  have hp : 0 < n ^ q := Nat.pow_pos hn
  have e1 : i + 1 = (i / n ^ q + 1) * n ^ q := by
    unfold M.Full at h
    have := Nat.div_add_mod i (n ^ q)
    rw [Nat.add_mul, Nat.one_mul, Nat.mul_comm]
    omega
  rcases Nat.lt_or_ge (i + 1) (n ^ m) with h1 | h1
  · exact h1
  · have e2 : i + 1 = n ^ m := by omega
    obtain ⟨r, rfl⟩ : ∃ r, m = r + 1 + q := ⟨m - q - 1, by omega⟩
    rw [e1, Nat.pow_add] at e2
    have e3 := Nat.eq_of_mul_eq_mul_right hp e2
    generalize i / n ^ q = j at *
    have hdm := Nat.div_add_mod j n
    have e4 : (j + 1) % n = j % n + 1 := by
      have e5 : j + 1 = (j % n + 1) + n * (j / n) := by omega
      rw [e5, Nat.add_mul_mod_self_left, Nat.mod_eq_of_lt hd]
    rw [e3, Nat.pow_succ, Nat.mul_mod_left] at e4
    omega
theorem box_pos {n m i : Nat} (hn : 0 < n) (hi : i < n ^ m) (h0 : ∀ z ∈ M.imgs n m i, z = 0) : i = 0 := by
  induction m generalizing i with
  | zero => simp at hi; omega
  | succ m ih =>
    rw [M.imgs] at h0
    have h1 := ih (i := i / n) (by rw [Nat.pow_succ] at hi; exact Nat.div_lt_of_lt_mul (by rw [Nat.mul_comm]; exact hi)) (fun z hz => h0 z (List.mem_append.2 (Or.inl hz)))
    have h2 := h0 ((i % n : Nat) : Int) (by simp)
    have h3 := Nat.div_add_mod i n
    rw [h1] at h3
    simp at h3
    omega
theorem imgs_last {n m i : Nat} : M.imgs n m (i % n ^ m) = M.imgs n m i := by
  induction m generalizing i with
  | zero => rfl
  | succ m ih =>
    rw [M.imgs, M.imgs]
    have h1 : i % n ^ (m + 1) % n = i % n := by
      rw [Nat.pow_succ]
      exact Nat.mod_mod_of_dvd _ ⟨n ^ m, Nat.mul_comm _ _⟩
    have h2 : i % n ^ (m + 1) / n = i / n % n ^ m := by rw [Nat.pow_succ, Nat.mul_comm, Nat.mod_mul_right_div_self]
    rw [h1, h2, ih]

/-- Whether rules and a table are valid, and there are at most 4096 lists. -/
def M.isMapped (k : Int) (rs : List M.Rule) (n : Int) (xs : List Int) : Bool := M.RulesOk k rs && (M.TableOk n xs && decide (n.toNat ^ k.toNat ≤ 4096))
def M.fitsAt (n : Nat) (m : Nat) (rs : List M.Rule) (xs : List Int) (i : Nat) : Bool := !rs.any (M.misfit n xs (M.imgs n m i))
def M.countTo (f : Nat → Bool) : Nat → Nat
  | 0 => 0
  | i + 1 => M.countTo f i + if f i = true then 1 else 0
theorem count_le (f : Nat → Bool) : ∀ i, M.countTo f i ≤ i
  | 0 => Nat.le_refl _
  | i + 1 => by
    have := count_le f i
    rw [M.countTo]
    split <;> omega
theorem count_yes {f : Nat → Bool} {i : Nat} (h : f i = true) : M.countTo f (i + 1) = M.countTo f i + 1 := by rw [M.countTo, if_pos h]
theorem count_no {f : Nat → Bool} {i : Nat} (h : f i = false) : M.countTo f (i + 1) = M.countTo f i := by rw [M.countTo, if_neg (by rw [h]; simp)]; rfl
def M.CountMaps (k : Int) (rs : List M.Rule) (n : Int) (xs : List Int) : Int := if M.isMapped k rs n xs = true then ((M.countTo (M.fitsAt n.toNat k.toNat rs xs) (n.toNat ^ k.toNat) : Nat) : Int) else -1
/-- The first number from i on, among so many, at which something holds. -/
def M.firstFrom (f : Nat → Bool) (i : Nat) : Nat → Option Nat
  | 0 => none
  | c + 1 => if f i = true then some i else M.firstFrom f (i + 1) c
theorem first_hit' {f : Nat → Bool} {i c : Nat} (h : f i = true) (hc : 0 < c) : M.firstFrom f i c = some i := by
  cases c with
  | zero => omega
  | succ c => rw [M.firstFrom, if_pos h]
theorem first_miss {f : Nat → Bool} {i c : Nat} (h : f i = false) (hc : 0 < c) : M.firstFrom f i c = M.firstFrom f (i + 1) (c - 1) := by
  cases c with
  | zero => omega
  | succ c => rw [M.firstFrom, if_neg (by rw [h]; simp)]; rfl
def M.FirstMap (k : Int) (rs : List M.Rule) (n : Int) (xs : List Int) : List Int × Bool := if M.isMapped k rs n xs = true then (match M.firstFrom (M.fitsAt n.toNat k.toNat rs xs) 1 (n.toNat ^ k.toNat - 1) with
  | some i => (M.imgs n.toNat k.toNat i, true)
  | none => ([], false)) else ([], false)
end Go.Proofs.Ytlohpphmamapeaa
