/-
  A slice appended to a slice of the call's own: the law of a walk.
  Conditions: at most 2^30 elements of at most 64 bytes.
-/
import Derived.Test.YtlohpphmamapeaaPush
namespace Go.Proofs.Ytlohpphmamapeaa
open Go.RowKit
set_option linter.unusedVariables false

section
variable {P : Program} {ops : Array Oper} {rest : List Oper} {o : Oper} {a : Act} {Q : Exit → Act → World → Prop} {w0 w : World}
theorem push_many (hgd : o.guard = none) (s x : Operand) {t : TypeId} (ho : o.op = .call { callee := .builtin .append, args := #[s, x], argTypes := #[t, t] }) {e : TypeId} {size : Nat} (T : SlT P t e size)
    {base : Nat} {A : Option Addr} {n c : Nat} {xs : List Value} (hs : a.eval s = .slice A n c) (hown : w.ownsRow base e size (.slice A n c) n xs) {us : List Value} {ad : Addr} {m d : Nat} (hx : a.eval x = .slice (some ad) m d)
    (hrd : Rd w size (some ad) m us) (h1 : ∀ u ∈ us, u.oneCell' = true) (hb : Below base w0 w) (hw0 : base = w0.heap.size) (hn : n + m ≤ 1099511627776)
    (h : ∀ A' c' w', w'.ownsRow base e size (.slice A' (n + m) c') (n + m) (xs ++ us) → Below base w0 w' → wpList P ops Q rest (a.put o.dst (.slice A' (n + m) c')) w') : wpList P ops Q (o :: rest) a w := by
  obtain ⟨i, z, hi, hz, hsz, hby, hzs⟩ := T.info
  have hbw : base ≤ w.heap.size := by rw [hw0]; exact hb.size
  refine wpList_append_own _ hgd s x t ho base e i z size i.bytes T.und hi hz hsz rfl hzs T.pos (.slice A n c) n xs hs hown ad m d us hx hrd.1 (fun j u hu => ?_) h1 (by simp only [maxLen]; omega) ?_ hbw ?_
  · have hj : j < m * size := by rw [← hrd.1]; exact (List.getElem?_eq_some_iff.1 hu).1
    have hm : 0 < m := by cases m with | zero => simp at hj | succ k => omega
    obtain ⟨b, q, e1, hc⟩ := hrd.2 hm
    injection e1 with e1
    subst e1
    have ha : (⟨b, q, none⟩ : Addr).add j = ⟨b, q + j, none⟩ := by unfold Addr.add; split <;> simp_all
    rw [ha]
    exact hc j u hu
  · have : (n + m) * i.bytes ≤ 1099511627776 * 64 := Nat.mul_le_mul hn hby
    omega
  · intro v' w' hown' hg _
    obtain ⟨A', c', rfl⟩ := own_slice hown'
    exact h A' c' w' hown' (hb.grown hg hbw (fun k hk => (hown.lt k hk).1))
end
theorem row_type {w : World} {base : Nat} {e : TypeId} {size : Nat} {v : Value} {n : Nat} {xs : List Value} (h : w.ownsRow base e size v n xs) {g : Nat} (hg : v.ownBlock = some g) : ∃ cur, w.heap[g]? = some (.cells cur e (0, 0)) := by
  rcases h.2 with ⟨rfl, _⟩ | ⟨g', cap, cur, rfl, _, hc, _⟩
  · simp [Value.ownBlock] at hg
  · simp [Value.ownBlock] at hg
    subst hg
    exact ⟨cur, hc⟩
/-- Rows of different element types lie in different blocks. -/
theorem own_apart {w : World} {base base' : Nat} {e e' : TypeId} {size size' : Nat} {v v' : Value} {n n' : Nat} {xs xs' : List Value} (h : w.ownsRow base e size v n xs) (h' : w.ownsRow base' e' size' v' n' xs') (hne : e ≠ e') : v.ownBlock = none ∨ v.ownBlock ≠ v'.ownBlock := by
  cases hv : v.ownBlock with
  | none => exact Or.inl rfl
  | some g =>
    refine Or.inr fun heq => ?_
    obtain ⟨c1, h1⟩ := row_type h hv
    obtain ⟨c2, h2⟩ := row_type h' heq.symm
    rw [h1] at h2
    simp at h2
    exact hne h2.2
section
variable {P : Program} {ops : Array Oper} {rest : List Oper} {o : Oper} {a : Act} {Q : Exit → Act → World → Prop} {w0 w : World}
theorem push_law_g (hgd : o.guard = none) (s x : Operand) {t : TypeId} (ho : o.op = .call { callee := .builtin .append, args := #[s, x], argTypes := #[t, t] }) {e : TypeId} {size : Nat} (T : SlT P t e size)
    {base : Nat} {A : Option Addr} {n c : Nat} {xs : List Value} (hs : a.eval s = .slice A n c) (hown : w.ownsRow base e size (.slice A n c) n xs) {us : List Value} {g : Nat} (hx : a.eval x = .slice (some ⟨g, 0, none⟩) 1 1)
    (hus : us.length = size) (h1 : ∀ u ∈ us, u.oneCell' = true) (hb : Below base w0 w) (hw0 : base = w0.heap.size) (hn : n < 1099511627776)
    (h : ∀ A' c' w', w'.ownsRow base e size (.slice A' (n + 1) c') (n + 1) (xs ++ us) → Below base w0 w' → (w.alloc (.cells us.toArray e)).grownBy w' (Value.slice A n c).ownBlock → wpList P ops Q rest (a.put o.dst (.slice A' (n + 1) c')) w') (hgw : g = w.heap.size := by first | rfl | simp) : wpList P ops Q (o :: rest) a (w.alloc (.cells us.toArray e)) := by
  subst hgw
  obtain ⟨i, z, hi, hz, hsz, hby, hzs⟩ := T.info
  have hbw : base ≤ w.heap.size := by rw [hw0]; exact hb.size
  refine wpList_append_own _ hgd s x t ho base e i z size i.bytes T.und hi hz hsz rfl hzs T.pos (.slice A n c) n xs hs (hown.alloc _) ⟨w.heap.size, 0, none⟩ 1 1 us hx (by simpa using hus) (fun j u hu => ?_) h1 (by simp only [maxLen]; omega) ?_ (by simp; omega) ?_
  · have ha : (⟨w.heap.size, 0, none⟩ : Addr).add j = ⟨w.heap.size, j, none⟩ := by unfold Addr.add; split <;> simp_all
    rw [ha, World.cell?_alloc_at _ _ _ _ rfl]
    simpa using hu
  · have : (n + 1) * i.bytes ≤ 1099511627776 * 64 := Nat.mul_le_mul (by omega) hby
    omega
  · intro v' w' hown' hg _
    obtain ⟨A', c', rfl⟩ := own_slice hown'
    refine h A' c' w' hown' ?_ hg
    refine (hb.alloc hbw _).grown hg (by simp; omega) (fun k hk => ?_)
    exact (hown.lt k hk).1
theorem push_law_gd {m : Nat} (hgd : o.guard = none) (s x : Operand) {t : TypeId} (ho : o.op = .call { callee := .builtin .append, args := #[s, x], argTypes := #[t, t] }) {e : TypeId} {size : Nat} (T : SlT P t e size)
    {base : Nat} {A : Option Addr} {n c : Nat} {xs : List Value} (hs : a.eval s = .slice A n c) (hown : w.ownsRow base e size (.slice A n c) n xs) {us : List Value} {g : Nat} (hx : a.eval x = .slice (some ⟨g, 0, none⟩) 1 1)
    (hus : us.length = size) (h1 : ∀ u ∈ us, u.oneCell' = true) (hb : Below base w0 w) (hw0 : base = w0.heap.size) (hn : n < 1099511627776)
    (h : ∀ A' c' w', w'.ownsRow base e size (.slice A' (n + 1) c') (n + 1) (xs ++ us) → Below base w0 w' → ((w.drewN m).alloc (.cells us.toArray e)).grownBy w' (Value.slice A n c).ownBlock → wpList P ops Q rest (a.put o.dst (.slice A' (n + 1) c')) w') (hgw : g = w.heap.size := by first | rfl | simp) : wpList P ops Q (o :: rest) a ((w.alloc (.cells us.toArray e)).drewN m) :=
  push_law_g (w := w.drewN m) hgd s x ho T hs hown (us := us) hx hus h1 (below_drewN hb m) hw0 hn h hgw
end
theorem cellBelow {B b o : Nat} {w0 w : World} {u : Value} (hb : Below B w0 w) (hlt : b < B) (h : w0.cell? ⟨b, o, none⟩ = some u) : w.cell? ⟨b, o, none⟩ = some u := (hb.cell (p := ⟨b, o, none⟩) hlt).trans h
theorem ruls_one (rs : List M.Rule) (f : M.Rule → List Value) (hf : ∀ r, ∀ u ∈ f r, u.oneCell' = true) : ∀ u ∈ rs.flatMap f, u.oneCell' = true := fun u hu => by
  obtain ⟨r, _, h⟩ := List.mem_flatMap.1 hu
  exact hf r u h

end Go.Proofs.Ytlohpphmamapeaa
