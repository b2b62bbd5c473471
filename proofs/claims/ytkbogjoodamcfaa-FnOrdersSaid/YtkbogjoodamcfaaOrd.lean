/-
  The order of words is a total order that letters on both sides keep; bytes opened.
  Conditions: none; this text names no law.
-/
import Derived.Test.YtkbogjoodamcfaaLess
import Derived.Test.YtkbogjoodamcfaaWordOk
import Derived.Test.YtkbogjoodamcfaaPower
import Derived.Test.YtkbogjoodamcfaaMake
import Derived.Test.YtkbogjoodamcfaaOpen2
namespace Go.Proofs.Ytkbogjoodamcfaa
open Go.ChangeShapes Go.WideShapes Go.ChangeAt Go.RowKit Go.Joins Go.Deep
set_option linter.unusedVariables false

theorem bl_irrefl : ∀ x : List UInt8, Op.bytesLess x x = false
  | [] => rfl
  | a :: x => by simp [Op.bytesLess, bl_irrefl x]
theorem bl_asymm : ∀ x y : List UInt8, Op.bytesLess x y = true → Op.bytesLess y x = false
  | _, [], h => by simp [Op.bytesLess] at h
  | [], b :: y, _ => rfl
  | a :: x, b :: y, h => by
    simp only [Op.bytesLess, Bool.or_eq_true, decide_eq_true_eq, Bool.and_eq_true, beq_iff_eq] at h
    simp only [Op.bytesLess, Bool.or_eq_false_iff, decide_eq_false_iff_not, Bool.and_eq_false_iff, beq_eq_false_iff_ne]
    rcases h with h | ⟨rfl, h⟩
    · exact ⟨fun h' => absurd (UInt8.lt_trans h h') (UInt8.lt_irrefl a), Or.inl fun e => by subst e; exact UInt8.lt_irrefl _ h⟩
    · exact ⟨UInt8.lt_irrefl a, Or.inr (bl_asymm x y h)⟩
theorem bl_total : ∀ x y : List UInt8, Op.bytesLess x y = false → Op.bytesLess y x = false → x = y
  | [], [], _, _ => rfl
  | [], b :: y, h, _ => by simp [Op.bytesLess] at h
  | a :: x, [], _, h => by simp [Op.bytesLess] at h
  | a :: x, b :: y, h, h' => by
    simp only [Op.bytesLess, Bool.or_eq_false_iff, decide_eq_false_iff_not, Bool.and_eq_false_iff, beq_eq_false_iff_ne] at h h'
    have e : a = b := by
      have h1 := h.1
      have h2 := h'.1
      rw [UInt8.lt_iff_toNat_lt] at h1 h2
      exact UInt8.toNat_inj.1 (by omega)
    subst e
    rw [bl_total x y (by rcases h.2 with h | h; exact absurd rfl h; exact h) (by rcases h'.2 with h | h; exact absurd rfl h; exact h)]
theorem bl_trans : ∀ x y z : List UInt8, Op.bytesLess x y = true → Op.bytesLess y z = true → Op.bytesLess x z = true
  | _, [], _, h, _ => by simp [Op.bytesLess] at h
  | _, _ :: _, [], _, h => by simp [Op.bytesLess] at h
  | [], _ :: _, c :: z, _, _ => rfl
  | a :: x, b :: y, c :: z, h, h' => by
    simp only [Op.bytesLess, Bool.or_eq_true, decide_eq_true_eq, Bool.and_eq_true, beq_iff_eq] at h h' ⊢
    rcases h with h | ⟨rfl, h⟩
    · rcases h' with h' | ⟨rfl, h'⟩
      · exact Or.inl (UInt8.lt_trans h h')
      · exact Or.inl h
    · rcases h' with h' | ⟨rfl, h'⟩
      · exact Or.inl h'
      · exact Or.inr ⟨rfl, bl_trans x y z h h'⟩
theorem bl_pre (x y : List UInt8) : ∀ p : List UInt8, Op.bytesLess (p ++ x) (p ++ y) = Op.bytesLess x y
  | [] => rfl
  | a :: p => by simp [Op.bytesLess, bl_pre x y p]
theorem bl_post (w : List UInt8) : ∀ x y : List UInt8, x.length = y.length → Op.bytesLess (x ++ w) (y ++ w) = Op.bytesLess x y
  | [], [], _ => by simp [bl_irrefl, Op.bytesLess]
  | [], _ :: _, h => by simp at h
  | _ :: _, [], h => by simp at h
  | a :: x, b :: y, h => by simp only [List.cons_append, Op.bytesLess]; rw [bl_post w x y (by simpa using h)]
theorem less_irrefl (u : List UInt8) : M.IsLess u u = false := by simp [M.IsLess, bl_irrefl]
theorem less_asymm {u v : List UInt8} (h : M.IsLess u v = true) : M.IsLess v u = false := by
  simp only [M.IsLess, Bool.or_eq_true, decide_eq_true_eq, Bool.and_eq_true] at h
  simp only [M.IsLess, Bool.or_eq_false_iff, decide_eq_false_iff_not, Bool.and_eq_false_iff]
  rcases h with h | ⟨h, h'⟩
  · exact ⟨by omega, Or.inl (by omega)⟩
  · exact ⟨by omega, Or.inr (bl_asymm _ _ h')⟩
theorem less_total {u v : List UInt8} (h : M.IsLess u v = false) (h' : M.IsLess v u = false) : u = v := by
  simp only [M.IsLess, Bool.or_eq_false_iff, decide_eq_false_iff_not, Bool.and_eq_false_iff] at h h'
  obtain ⟨h1, h2⟩ := h
  obtain ⟨h3, h4⟩ := h'
  exact bl_total _ _ (by rcases h2 with h2 | h2; omega; exact h2) (by rcases h4 with h4 | h4; omega; exact h4)
theorem less_trans {u v w : List UInt8} (h : M.IsLess u v = true) (h' : M.IsLess v w = true) : M.IsLess u w = true := by
  simp only [M.IsLess, Bool.or_eq_true, decide_eq_true_eq, Bool.and_eq_true] at h h' ⊢
  rcases h with h | ⟨h, h1⟩
  · rcases h' with h' | ⟨h', h2⟩
    · exact Or.inl (by omega)
    · exact Or.inl (by omega)
  · rcases h' with h' | ⟨h', h2⟩
    · exact Or.inl (by omega)
    · exact Or.inr ⟨by omega, bl_trans _ _ _ h1 h2⟩
theorem less_both (x u v w : List UInt8) : M.IsLess (x ++ u ++ w) (x ++ v ++ w) = M.IsLess u v := by
  unfold M.IsLess
  have e1 : decide ((x ++ u ++ w).length < (x ++ v ++ w).length) = decide (u.length < v.length) := by
    rw [decide_eq_decide]; simp
  have e2 : decide ((x ++ u ++ w).length = (x ++ v ++ w).length) = decide (u.length = v.length) := by
    rw [decide_eq_decide]; simp
  rw [e1, e2]
  by_cases h : u.length = v.length
  · rw [List.append_assoc, List.append_assoc, bl_pre, bl_post w u v h]
  · rw [decide_eq_false h, Bool.false_and, Bool.false_and]
theorem less_both' (x u v w : List UInt8) : M.IsLess (x ++ (u ++ w)) (x ++ (v ++ w)) = M.IsLess u v := by rw [← List.append_assoc, ← List.append_assoc, less_both]
theorem among_add {k : Nat} {u v : List UInt8} (h : M.among k u) (h' : M.among k v) : M.among k (u ++ v) := fun x hx => by
  rcases List.mem_append.1 hx with hx | hx
  · exact h x hx
  · exact h' x hx
theorem among_ok {m : List UInt8} (h : M.among 2 m) (hl : m.length ≤ 16) : M.WordOk 2 m = true := by
  unfold M.WordOk
  rw [Bool.and_eq_true, Bool.and_eq_true]
  refine ⟨by decide, decide_eq_true (by omega), ?_⟩
  unfold M.hasLetters
  rw [List.all_eq_true]
  intro x hx
  have := h x hx
  exact M.isLetter_true (by omega)
theorem among_count {m : List UInt8} (h : M.among 2 m) : M.CountLetter m 0 + M.CountLetter m 1 = (m.length : Int) := by
  have key : ∀ m : List UInt8, M.among 2 m → m.count (M.letter 0) + m.count (M.letter 1) = m.length := by
    intro m
    induction m with
    | nil => intro _; rfl
    | cons x r ih =>
      intro hm
      have hx := hm x (by simp)
      have ih := ih fun y hy => hm y (by simp [hy])
      have e0 : (M.letter 0).toNat = 97 := by decide
      have e1 : (M.letter 1).toNat = 98 := by decide
      have hc : x = M.letter 0 ∨ x = M.letter 1 := by
        by_cases h97 : x.toNat = 97
        · left; exact UInt8.toNat_inj.1 (by omega)
        · right; exact UInt8.toNat_inj.1 (by omega)
      have hne : M.letter 0 ≠ M.letter 1 := by decide
      rcases hc with rfl | rfl
      · rw [List.count_cons_self, List.count_cons_of_ne (by exact fun e => hne e), List.length_cons]; omega
      · rw [List.count_cons_self, List.count_cons_of_ne (by exact fun e => hne e.symm), List.length_cons]; omega
  have := key m h
  have e0 : M.CountLetter m 0 = ((m.count (M.letter 0) : Nat) : Int) := if_pos (by decide)
  have e1 : M.CountLetter m 1 = ((m.count (M.letter 1) : Nat) : Int) := if_pos (by decide)
  rw [e0, e1]
  omega
section
variable {H : Type} {enc : TypeId × Value → H} {w : World} {b0 : Nat} {held : Bool} {spare : Nat → Bool} {v : Value} {d : DataW H} {p : List MemPlace}
def u81 (x : UInt8) : List Value := [.int .u8 (x.toNat : Int)]
theorem u8s_flat : ∀ l : List UInt8, l.flatMap u81 = u8s l
  | [] => rfl
  | z :: zs => by rw [List.flatMap_cons, u8s_flat zs]; rfl
theorem Try.cellsU8 : Try.prog.cellsOf 5 = 1 := by kernel_rfl
theorem openOneU8 {n : Nat} {v : Value} {y : DataW H × List MemPlace} (h : DataW.trod enc Try.prog w 0 spare held n 5 [v] = some y) : ∃ x : UInt8, v = .int .u8 (x.toNat : Int) := by
  obtain ⟨k, e, _, hs⟩ := DataW.trod_int Try.underlying5 h
  simp only [List.cons.injEq, and_true] at e
  have h1 : IntKind.u8.min = 0 := rfl
  have h2 : IntKind.u8.max = 255 := rfl
  simp only [Lit.wf, Bool.and_eq_true, decide_eq_true_eq] at hs
  refine ⟨UInt8.ofNat k.toNat, ?_⟩
  rw [e, UInt8.toNat_ofNat']
  congr 1
  omega
set_option maxRecDepth 100000 in
theorem openByteSlice {n : Nat} {v : Value} {y : DataW H × List MemPlace} (h : DataW.trod enc Try.prog w 0 spare held n 28 [v] = some y) :
    ∃ (A : Option Addr) (c : Nat) (l : List UInt8), v = .slice A l.length c ∧ l.length ≤ 9223372036854775807 ∧ Rd w 1 A l.length (u8s l) := by
  obtain ⟨A, c, zs, e, h1, h2, _⟩ := openElems u81 (fun _ => True) (fun _ => rfl) (by decide) Try.underlying28 Try.cellsU8 (fun m cs y hl hy => by
    match cs, hl with
    | [c0], _ =>
      obtain ⟨k, rfl⟩ := openOneU8 hy
      exact ⟨k, rfl, trivial⟩) h
  exact ⟨A, c, zs, e, h1, by rwa [u8s_flat] at h2⟩
set_option maxRecDepth 100000 in
theorem openBytes (hv : Value.okWide Try.prog w .any b0 28 v) (h : DataW.Trod enc Try.prog w 0 spare held 28 v d p) :
    ∃ (A : Option Addr) (c : Nat) (l : List UInt8), v = .slice A l.length c ∧ (l.length ≤ 9223372036854775807 ∧ Rd w 1 A l.length (u8s l)) := by
  obtain ⟨a0, len, cap, rfl⟩ := okWide_slice Try.underlying28 hv
  obtain ⟨fuel, hf⟩ := h
  obtain ⟨A, c, xs, e, h1, h2⟩ := openByteSlice (v := .slice a0 len cap) (by simpa [Value.cells] using hf)
  exact ⟨A, c, xs, e, h1, h2⟩
end

end Go.Proofs.Ytkbogjoodamcfaa
