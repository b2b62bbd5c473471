/-
  Appends whose row is known, in whatever world: as a step of a walk, and as a step of a region.
  Conditions: none; this text names no law.
-/
import Derived.Test.YtlohpphmamapeaaPushM
namespace Go.Proofs.Ytlohpphmamapeaa
open Go.RowKit
set_option linter.unusedVariables false

section
variable {P : Program} {ops : Array Oper} {rest : List Oper} {o : Oper} {a : Act} {Q : Exit → Act → World → Prop} {w W : World}
theorem push_law_h (hgd : o.guard = none) (s x : Operand) {t : TypeId} (ho : o.op = .call { callee := .builtin .append, args := #[s, x], argTypes := #[t, t] }) {e : TypeId} {size : Nat} (T : SlT P t e size)
    {base : Nat} {A : Option Addr} {n c : Nat} {xs : List Value} (hs : a.eval s = .slice A n c) (hown : W.ownsRow base e size (.slice A n c) n xs) {us : List Value} {g : Nat} (hx : a.eval x = .slice (some ⟨g, 0, none⟩) 1 1)
    (hus : us.length = size) (h1 : ∀ u ∈ us, u.oneCell' = true) (hblk : W.heap[g]? = some (.cells us.toArray e (0, 0))) (hbw : base ≤ W.heap.size) (hn : n < 1099511627776)
    (h : ∀ A' c' w', w'.ownsRow base e size (.slice A' (n + 1) c') (n + 1) (xs ++ us) → W.grownBy w' (Value.slice A n c).ownBlock → wpList P ops Q rest (a.put o.dst (.slice A' (n + 1) c')) w') : wpList P ops Q (o :: rest) a W := by
  obtain ⟨i, z, hi, hz, hsz, hby, hzs⟩ := T.info
  refine wpList_append_own W hgd s x t ho base e i z size i.bytes T.und hi hz hsz rfl hzs T.pos (.slice A n c) n xs hs hown ⟨g, 0, none⟩ 1 1 us hx (by simpa using hus) (fun j u hu => ?_) h1 (by simp only [maxLen]; omega) ?_ hbw ?_
  · have ha : (⟨g, 0, none⟩ : Addr).add j = ⟨g, j, none⟩ := by unfold Addr.add; split <;> simp_all
    rw [ha, cell_of_row W g j us.toArray e (0, 0) hblk]
    simpa using hu
  · have : (n + 1) * i.bytes ≤ 1099511627776 * 64 := Nat.mul_le_mul (by omega) hby
    omega
  · intro v' w' hown' hg _
    obtain ⟨A', c', rfl⟩ := own_slice hown'
    exact h A' c' w' hown' hg
theorem step_push_h {K : Act → World → Prop} {E : Prop} (hgd : o.guard = none) (s x : Operand) {t : TypeId} (ho : o.op = .call { callee := .builtin .append, args := #[s, x], argTypes := #[t, t] }) {e : TypeId} {size : Nat} (T : SlT P t e size)
    {base : Nat} {A : Option Addr} {n c : Nat} {xs : List Value} (hs : a.eval s = .slice A n c) (hown : W.ownsRow base e size (.slice A n c) n xs) {us : List Value} {g : Nat} (hx : a.eval x = .slice (some ⟨g, 0, none⟩) 1 1)
    (hus : us.length = size) (h1 : ∀ u ∈ us, u.oneCell' = true) (hblk : W.heap[g]? = some (.cells us.toArray e (0, 0))) (hbw : base ≤ W.heap.size) (hn : n < 1099511627776)
    (h : ∀ A' c' w', w'.ownsRow base e size (.slice A' (n + 1) c') (n + 1) (xs ++ us) → W.grownBy w' (Value.slice A n c).ownBlock → K (a.put o.dst (.slice A' (n + 1) c')) w') :
    if Region.wanted o (yielded ops a.tmps) = true then Oper.wp P o a W K Q else E := by
  obtain ⟨i, z, hi, hz, hsz, hby, hzs⟩ := T.info
  have hw : Region.wanted o (yielded ops a.tmps) = true := by simp [Region.wanted, hgd]
  rw [if_pos hw]
  refine wp_append_own W s x t ho base e i z size i.bytes T.und hi hz hsz rfl hzs T.pos (.slice A n c) n xs hs hown ⟨g, 0, none⟩ 1 1 us hx (by simpa using hus) (fun j u hu => ?_) h1 (by simp only [maxLen]; omega) ?_ hbw ?_
  · have ha : (⟨g, 0, none⟩ : Addr).add j = ⟨g, j, none⟩ := by unfold Addr.add; split <;> simp_all
    rw [ha, cell_of_row W g j us.toArray e (0, 0) hblk]
    simpa using hu
  · have : (n + 1) * i.bytes ≤ 1099511627776 * 64 := Nat.mul_le_mul (by omega) hby
    omega
  · intro v' w' hown' hg _
    obtain ⟨A', c', rfl⟩ := own_slice hown'
    exact h A' c' w' hown' hg
end
end Go.Proofs.Ytlohpphmamapeaa
