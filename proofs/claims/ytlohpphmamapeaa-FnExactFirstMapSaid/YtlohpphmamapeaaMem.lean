/-
  Words for memory: a slice that reads as a list of cells, a slice of the call's own, and how both are kept.
  Conditions: none; this text names no law.
-/
import Derived.Test.YtlohpphmamapeaaBase
import Derived.Test.YtlohpphmamapeaaModel
import Derived.Laws.OwnMore
namespace Go.Proofs.Ytlohpphmamapeaa
open Go.RowKit
set_option linter.unusedVariables false

/-- The slice with the address A and n elements of 'size' cells each holds the cells xs. -/
def Rd (w : World) (size : Nat) (A : Option Addr) (n : Nat) (xs : List Value) : Prop :=
  xs.length = n * size ∧ (0 < n → ∃ b o, A = some ⟨b, o, none⟩ ∧ ∀ j u, xs[j]? = some u → w.cell? ⟨b, o + j, none⟩ = some u)

section
variable {w w' : World} {size n : Nat} {A : Option Addr} {xs : List Value}
theorem Rd.none_ : Rd w size A 0 [] := ⟨by simp, fun h => absurd h (by omega)⟩
theorem Rd.lt (h : Rd w size A n xs) (hs : 0 < size) (hn : 0 < n) {ad : Addr} (ha : A = some ad) : ad.block < w.heap.size := by
  obtain ⟨b, o, e, hc⟩ := h.2 hn
  rw [ha] at e
  injection e with e
  subst e
  have hl : 0 < xs.length := by rw [h.1]; exact Nat.mul_pos hn hs
  exact World.block_lt_of_cell? w _ (hc 0 _ (List.getElem?_eq_getElem hl))
theorem Rd.keep (h : Rd w size A n xs) (hk : ∀ b o u, A.map (·.block) = some b → w.cell? ⟨b, o, none⟩ = some u → w'.cell? ⟨b, o, none⟩ = some u) : Rd w' size A n xs :=
  ⟨h.1, fun hn => by
    obtain ⟨b, o, e, hc⟩ := h.2 hn
    exact ⟨b, o, e, fun j u hu => hk b _ u (by rw [e]; rfl) (hc j u hu)⟩⟩
theorem Rd.below (h : Rd w size A n xs) (hb : Below w.heap.size w w') : Rd w' size A n xs :=
  h.keep fun b o u _ hu => (hb.cell (p := ⟨b, o, none⟩) (World.block_lt_of_cell? w _ hu)).trans hu
theorem Rd.grown (h : Rd w size A n xs) {row : Option Nat} (hg : w.grownBy w' row) (hne : 0 < n → ∀ ad, A = some ad → some ad.block ≠ row) : Rd w' size A n xs :=
  ⟨h.1, fun hn => by
    obtain ⟨b, o, e, hc⟩ := h.2 hn
    exact ⟨b, o, e, fun j u hu => hg.cell (a := ⟨b, o + j, none⟩) (hc j u hu) (hne hn ⟨b, o, none⟩ e)⟩⟩
theorem Rd.of_own {base : Nat} {e : TypeId} {c : Nat} (h : w.ownsRow base e size (.slice A n c) n xs) : Rd w size A n xs := by
  refine ⟨h.1, fun hn => ?_⟩
  rcases h.2 with ⟨_, h0⟩ | ⟨g, cap, cur, hv, _⟩
  · omega
  · injection hv with hA
    subst hA
    refine ⟨g, 0, rfl, fun j u hu => ?_⟩
    have := h.cells (g := g) rfl j u hu
    have ha : (⟨g, 0, none⟩ : Addr).add j = ⟨g, j, none⟩ := by unfold Addr.add; split <;> simp_all
    rw [ha] at this
    rw [Nat.zero_add]
    exact this
theorem cellKeep {w w' : World} {b o : Nat} {u : Value} (hb : Below w.heap.size w w') (h : w.cell? ⟨b, o, none⟩ = some u) : w'.cell? ⟨b, o, none⟩ = some u := (hb.cell (p := ⟨b, o, none⟩) (World.block_lt_of_cell? w _ h)).trans h
theorem Rd.ext {ys : List Value} (h : Rd w size A n xs) (h' : ys = xs) : Rd w size A n ys := h' ▸ h

theorem grown_of_below (hb : Below w.heap.size w w') (row : Option Nat) : w.grownBy w' row := ⟨hb.os, hb.tape, hb.output, hb.size, fun i hi _ => hb.block i hi⟩
theorem own_below {base : Nat} {e : TypeId} {v : Value} (h : w.ownsRow base e size v n xs) (hb : Below w.heap.size w w') : w'.ownsRow base e size v n xs :=
  h.kept (grown_of_below hb none) (by cases v.ownBlock <;> simp)
theorem below_of_grown {B : Nat} {row : Option Nat} (hg : w.grownBy w' row) (hB : B ≤ w.heap.size) (hr : ∀ k, row = some k → B ≤ k) : Below B w w' := (Below.refl B w).grown hg hB hr
/-- An own row that was made behind a moment is not the row that is written. -/
theorem own_ne {base : Nat} {e : TypeId} {v v' : Value} {w0 : World} {base' size' n' : Nat} {e' : TypeId} {xs' : List Value} (h : w.ownsRow base e size v n xs) (h' : w0.ownsRow base' e' size' v' n' xs') (hb : w0.heap.size ≤ base) : v.ownBlock = none ∨ v.ownBlock ≠ v'.ownBlock := by
  cases hv : v.ownBlock with
  | none => exact Or.inl rfl
  | some k =>
    refine Or.inr fun e => ?_
    have h1 := (h.lt k hv).1
    have h2 := (h'.lt k (e ▸ rfl)).2
    omega
theorem rd_ne {w0 : World} {base' size' n' : Nat} {e' : TypeId} {v' : Value} {xs' : List Value} (h : Rd w0 size A n xs) (hs : 0 < size) (h' : w.ownsRow base' e' size' v' n' xs') (hb : w0.heap.size ≤ base') : 0 < n → ∀ ad, A = some ad → some ad.block ≠ v'.ownBlock := by
  intro hn ad ha e
  have h1 := h.lt hs hn ha
  have h2 := (h'.lt ad.block e.symm).1
  omega
theorem own_base {base base' : Nat} {e : TypeId} {v : Value} (h : w.ownsRow base e size v n xs) (hb : base' ≤ base) : w.ownsRow base' e size v n xs := by
  refine ⟨h.1, ?_⟩
  rcases h.2 with h2 | ⟨g, cap, cur, hv, hg, r⟩
  · exact Or.inl h2
  · exact Or.inr ⟨g, cap, cur, hv, by omega, r⟩
theorem own_slice {base : Nat} {e : TypeId} {v : Value} (h : w.ownsRow base e size v n xs) : ∃ A c, v = .slice A n c := by
  rcases h.2 with ⟨hv, h0⟩ | ⟨g, cap, cur, hv, _⟩
  · subst h0; exact ⟨none, 0, hv⟩
  · exact ⟨_, _, hv⟩
end

/-- The cells of a slice of integers, of strings, of rules, of steps, of pairs, of links. -/
def ints (zs : List Int) : List Value := zs.map (Value.int .i64)
def strs (ls : List (List UInt8)) : List Value := ls.map fun l => Value.string ⟨l.toArray⟩
theorem ints_len (zs : List Int) : (ints zs).length = zs.length := by simp [ints]
theorem strs_len (ls : List (List UInt8)) : (strs ls).length = ls.length := by simp [strs]
theorem ints_at {zs : List Int} {k : Nat} (h : k < zs.length) : (ints zs)[k]? = some (.int .i64 zs[k]) := by simp [ints, h]
theorem strs_at {ls : List (List UInt8)} {k : Nat} (h : k < ls.length) : (strs ls)[k]? = some (.string ⟨ls[k].toArray⟩) := by simp [strs, h]
theorem ints_add (a b : List Int) : ints (a ++ b) = ints a ++ ints b := by simp [ints]
theorem strs_add (a b : List (List UInt8)) : strs (a ++ b) = strs a ++ strs b := by simp [strs]

theorem Rd.intAt {w : World} {A : Option Addr} {n : Nat} {zs : List Int} (h : Rd w 1 A n (ints zs)) {k : Nat} (hk : k < n) :
    ∃ b o, A = some ⟨b, o, none⟩ ∧ ∃ hz : k < zs.length, w.cell? ⟨b, o + k, none⟩ = some (.int .i64 zs[k]) := by
  obtain ⟨b, o, e, hc⟩ := h.2 (by omega)
  have hl : k < zs.length := by have := h.1; rw [ints_len] at this; omega
  exact ⟨b, o, e, hl, hc k _ (ints_at hl)⟩
theorem Rd.strAt {w : World} {A : Option Addr} {n : Nat} {ls : List (List UInt8)} (h : Rd w 1 A n (strs ls)) {k : Nat} (hk : k < n) :
    ∃ b o, A = some ⟨b, o, none⟩ ∧ ∃ hz : k < ls.length, w.cell? ⟨b, o + k, none⟩ = some (.string ⟨ls[k].toArray⟩) := by
  obtain ⟨b, o, e, hc⟩ := h.2 (by omega)
  have hl : k < ls.length := by have := h.1; rw [strs_len] at this; omega
  exact ⟨b, o, e, hl, hc k _ (strs_at hl)⟩

end Go.Proofs.Ytlohpphmamapeaa
