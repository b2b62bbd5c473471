/-
  A slice appended to a slice of the call's own: the law of a walk.
  Conditions: at most 2^30 elements of at most 64 bytes.
-/
import Derived.Test.YtoijojdegohknaaPush
namespace Go.Proofs.Ytoijojdegohknaa
open Go.RowKit
set_option linter.unusedVariables false

section
variable {P : Program} {ops : Array Oper} {rest : List Oper} {o : Oper} {a : Act} {Q : Exit → Act → World → Prop} {w0 w : World}
theorem push_many (hgd : o.guard = none) (s x : Operand) {t : TypeId} (ho : o.op = .call { callee := .builtin .append, args := #[s, x], argTypes := #[t, t] }) {e : TypeId} {size : Nat} (T : SlT P t e size)
    {base : Nat} {A : Option Addr} {n c : Nat} {xs : List Value} (hs : a.eval s = .slice A n c) (hown : w.ownsRow base e size (.slice A n c) n xs) {us : List Value} {ad : Addr} {m d : Nat} (hx : a.eval x = .slice (some ad) m d)
    (hrd : Rd w size (some ad) m us) (h1 : ∀ u ∈ us, u.oneCell' = true) (hb : Below base w0 w) (hw0 : base = w0.heap.size) (hn : n + m ≤ 1099511627776)
    (h : ∀ A' c' w', w'.ownsRow base e size (.slice A' (n + m) c') (n + m) (xs ++ us) → Below base w0 w' → wpList P ops Q rest (a.put o.dst (.slice A' (n + m) c')) w') : wpList P ops Q (o :: rest) a w := by
  obtain ⟨i, z, hi, hz, hsz, hby, hzs⟩ := T.info
  have hbw : base ≤ w.heap.size := by rw [hw0]; exact hb.size
  refine wpList_append_own _ hgd s x t ho base e i z size i.bytes T.und hi hz hsz rfl hzs T.pos (.slice A n c) n xs hs hown ad m d us hx hrd.1 (fun j u hu => ?_) h1 (by simp only [maxLen]; omega) ?_ hbw ?_
  · have hj : j < m * size := by rw [← hrd.1]; exact (List.getElem?_eq_some_iff.1 hu).1
    have hm : 0 < m := by cases m with | zero => simp at hj | succ k => omega
    obtain ⟨b, q, e1, hc⟩ := hrd.2 hm
    injection e1 with e1
    subst e1
    have ha : (⟨b, q, none⟩ : Addr).add j = ⟨b, q + j, none⟩ := by unfold Addr.add; split <;> simp_all
    rw [ha]
    exact hc j u hu
  · have : (n + m) * i.bytes ≤ 1099511627776 * 64 := Nat.mul_le_mul hn hby
    omega
  · intro v' w' hown' hg _
    obtain ⟨A', c', rfl⟩ := own_slice hown'
    exact h A' c' w' hown' (hb.grown hg hbw (fun k hk => (hown.lt k hk).1))
end
theorem ruls_one (rs : List M.Rule) (f : M.Rule → List Value) (hf : ∀ r, ∀ u ∈ f r, u.oneCell' = true) : ∀ u ∈ rs.flatMap f, u.oneCell' = true := fun u hu => by
  obtain ⟨r, _, h⟩ := List.mem_flatMap.1 hu
  exact hf r u h

end Go.Proofs.Ytoijojdegohknaa
