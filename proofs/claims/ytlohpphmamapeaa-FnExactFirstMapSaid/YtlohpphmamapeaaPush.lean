/-
  One element appended to a slice of the call's own: the law of a walk.
  Conditions: at most 2^40 elements of at most 64 bytes.
-/
import Derived.Test.YtlohpphmamapeaaMem
import Derived.OwnWalk
namespace Go.Proofs.Ytlohpphmamapeaa
open Go.RowKit
set_option linter.unusedVariables false

/-- What the laws on append ask of a slice's type: its element's type, the cells and the bytes of an element. -/
structure SlT (P : Program) (t e : TypeId) (size : Nat) : Prop where
  und : P.underlying t = some (.slice e)
  info : ∃ i z, P.info? e = some i ∧ i.zero = some z ∧ i.size = size ∧ i.bytes ≤ 64 ∧ z.cells.size = size
  pos : 0 < size

section
variable {P : Program} {ops : Array Oper} {rest : List Oper} {o : Oper} {a : Act} {Q : Exit → Act → World → Prop} {w0 w : World}
theorem push_law (hgd : o.guard = none) (s x : Operand) {t : TypeId} (ho : o.op = .call { callee := .builtin .append, args := #[s, x], argTypes := #[t, t] }) {e : TypeId} {size : Nat} (T : SlT P t e size)
    {base : Nat} {A : Option Addr} {n c : Nat} {xs : List Value} (hs : a.eval s = .slice A n c) (hown : w.ownsRow base e size (.slice A n c) n xs) {us : List Value} {g : Nat} (hx : a.eval x = .slice (some ⟨g, 0, none⟩) 1 1)
    (hus : us.length = size) (h1 : ∀ u ∈ us, u.oneCell' = true) (hb : Below base w0 w) (hw0 : base = w0.heap.size) (hn : n < 1099511627776)
    (h : ∀ A' c' w', w'.ownsRow base e size (.slice A' (n + 1) c') (n + 1) (xs ++ us) → Below base w0 w' → wpList P ops Q rest (a.put o.dst (.slice A' (n + 1) c')) w') (hgw : g = w.heap.size := by first | rfl | simp) : wpList P ops Q (o :: rest) a (w.alloc (.cells us.toArray e)) := by
  subst hgw
  obtain ⟨i, z, hi, hz, hsz, hby, hzs⟩ := T.info
  have hbw : base ≤ w.heap.size := by rw [hw0]; exact hb.size
  refine wpList_append_own _ hgd s x t ho base e i z size i.bytes T.und hi hz hsz rfl hzs T.pos (.slice A n c) n xs hs (hown.alloc _) ⟨w.heap.size, 0, none⟩ 1 1 us hx (by simpa using hus) (fun j u hu => ?_) h1 (by simp only [maxLen]; omega) ?_ (by simp; omega) ?_
  · have ha : (⟨w.heap.size, 0, none⟩ : Addr).add j = ⟨w.heap.size, j, none⟩ := by unfold Addr.add; split <;> simp_all
    rw [ha, World.cell?_alloc_at _ _ _ _ rfl]
    simpa using hu
  · have : (n + 1) * i.bytes ≤ 1099511627776 * 64 := Nat.mul_le_mul (by omega) hby
    omega
  · intro v' w' hown' hg _
    obtain ⟨A', c', rfl⟩ := own_slice hown'
    refine h A' c' w' hown' ?_
    refine (hb.alloc hbw _).grown hg (by simp; omega) (fun k hk => ?_)
    exact (hown.lt k hk).1
theorem push_law_drew {m : Nat} (hgd : o.guard = none) (s x : Operand) {t : TypeId} (ho : o.op = .call { callee := .builtin .append, args := #[s, x], argTypes := #[t, t] }) {e : TypeId} {size : Nat} (T : SlT P t e size)
    {base : Nat} {A : Option Addr} {n c : Nat} {xs : List Value} (hs : a.eval s = .slice A n c) (hown : w.ownsRow base e size (.slice A n c) n xs) {us : List Value} {g : Nat} (hx : a.eval x = .slice (some ⟨g, 0, none⟩) 1 1)
    (hus : us.length = size) (h1 : ∀ u ∈ us, u.oneCell' = true) (hb : Below base w0 w) (hw0 : base = w0.heap.size) (hn : n < 1099511627776)
    (h : ∀ A' c' w', w'.ownsRow base e size (.slice A' (n + 1) c') (n + 1) (xs ++ us) → Below base w0 w' → wpList P ops Q rest (a.put o.dst (.slice A' (n + 1) c')) w') (hgw : g = w.heap.size := by first | rfl | simp) : wpList P ops Q (o :: rest) a ((w.alloc (.cells us.toArray e)).drewN m) :=
  push_law (w := w.drewN m) hgd s x ho T hs hown (us := us) hx hus h1 (below_drewN hb m) hw0 hn h hgw
end

/-- A call that returns a slice of its own: its cells; below the old heap nothing has turned. -/
def RetRow (e size n : Nat) (cs : List Value) (w : World) (x : Ending) (w' : World) : Prop :=
  ∃ A c, x = .returned (.slice A n c) ∧ w'.ownsRow w.heap.size e size (.slice A n c) n cs ∧ Below w.heap.size w w'

theorem sl_of {P : Program} {t e : TypeId} {size : Nat} (hu : P.underlying t = some (.slice e)) (hp : 0 < size) (h : (P.info? e).bind (fun i => i.zero.map fun z => (i.size, z.cells.size, decide (i.bytes ≤ 64))) = some (size, size, true)) : SlT P t e size := by
  refine ⟨hu, ?_, hp⟩
  cases hi : P.info? e with
  | none => rw [hi] at h; cases h
  | some i =>
    rw [hi] at h
    cases hz : i.zero with
    | none => simp [hz] at h
    | some z =>
      simp [hz] at h
      exact ⟨i, z, rfl, hz, h.1, h.2.2, h.2.1⟩
theorem slInt : SlT Try.prog 35 3 1 := sl_of Try.underlying35 (by decide) (by kernel_rfl)
theorem slString : SlT Try.prog 90 9 1 := sl_of Try.underlying90 (by decide) (by kernel_rfl)
theorem slRule : SlT Try.prog 26 84 2 := sl_of Try.underlying26 (by decide) (by kernel_rfl)
theorem slStep : SlT Try.prog 116 129 2 := sl_of Try.underlying116 (by decide) (by kernel_rfl)
theorem slPair : SlT Try.prog 126 131 5 := sl_of Try.underlying126 (by decide) (by kernel_rfl)

end Go.Proofs.Ytlohpphmamapeaa
