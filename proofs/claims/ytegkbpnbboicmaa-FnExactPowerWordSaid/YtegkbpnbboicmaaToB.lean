/-
  Every plain contract's memory fact as Below.
  Conditions: none.
-/
import Derived.Test.YtegkbpnbboicmaaBase
namespace Go.Proofs.Ytegkbpnbboicmaa
open Go.RowKit

theorem toBelow1 {p : Program} {f : Nat} {a : Array Value} {w : World} {x : Ending} (h : Calls p f a w fun e w' => e = x ∧ w = w') : Calls p f a w fun e w' => e = x ∧ Below w.heap.size w w' :=
  h.mono fun _ _ h => ⟨h.1, h.2 ▸ Below.refl _ _⟩
theorem toBelow2 {p : Program} {f : Nat} {a : Array Value} {w : World} {x : Ending} (h : Calls p f a w fun e w' => e = x ∧ ∃ k, w' = w.drewN k) : Calls p f a w fun e w' => e = x ∧ Below w.heap.size w w' :=
  h.mono fun _ _ h => ⟨h.1, by obtain ⟨k, rfl⟩ := h.2; exact below_drewN (Below.refl _ _) k⟩
theorem toBelow {p : Program} {f : Nat} {a : Array Value} {w : World} {x : Ending} (h : Calls p f a w fun e w' => e = x ∧ Below w.heap.size w w') : Calls p f a w fun e w' => e = x ∧ Below w.heap.size w w' := h

end Go.Proofs.Ytegkbpnbboicmaa
