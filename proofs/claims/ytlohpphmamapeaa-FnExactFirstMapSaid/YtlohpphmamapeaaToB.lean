/-
  Every plain contract's memory fact as Below.
  Conditions: none.
-/
import Derived.Test.YtlohpphmamapeaaBase
namespace Go.Proofs.Ytlohpphmamapeaa
open Go.RowKit

theorem toBelow1 {p : Program} {f : Nat} {a : Array Value} {w : World} {x : Ending} (h : Calls p f a w fun e w' => e = x ∧ w = w') : Calls p f a w fun e w' => e = x ∧ Below w.heap.size w w' :=
  h.mono fun _ _ h => ⟨h.1, h.2 ▸ Below.refl _ _⟩
theorem toBelow2 {p : Program} {f : Nat} {a : Array Value} {w : World} {x : Ending} (h : Calls p f a w fun e w' => e = x ∧ ∃ k, w' = w.drewN k) : Calls p f a w fun e w' => e = x ∧ Below w.heap.size w w' :=
  h.mono fun _ _ h => ⟨h.1, by obtain ⟨k, rfl⟩ := h.2; exact below_drewN (Below.refl _ _) k⟩
theorem toBelow {p : Program} {f : Nat} {a : Array Value} {w : World} {x : Ending} (h : Calls p f a w fun e w' => e = x ∧ Below w.heap.size w w') : Calls p f a w fun e w' => e = x ∧ Below w.heap.size w w' := h

theorem allocKeep1 {w : World} {b o : Nat} {u : Value} (h : w.cell? ⟨b, o, none⟩ = some u) (x : Obj) : (w.alloc x).cell? ⟨b, o, none⟩ = some u :=
  (((Below.refl w.heap.size w).alloc (Nat.le_refl _) x).cell (p := ⟨b, o, none⟩) (World.block_lt_of_cell? w _ h)).trans h
theorem allocKeep2 {w : World} {b o : Nat} {u : Value} (h : w.cell? ⟨b, o, none⟩ = some u) (x y : Obj) : ((w.alloc x).alloc y).cell? ⟨b, o, none⟩ = some u := allocKeep1 (allocKeep1 h x) y

end Go.Proofs.Ytlohpphmamapeaa
