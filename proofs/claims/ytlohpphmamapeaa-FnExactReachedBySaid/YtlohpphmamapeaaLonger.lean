/-
  Contracts of letterOf, longerWords and WordsOf.
  Conditions: at most 2^20 words of at most 2^20 letters.
-/
import Derived.Test.YtlohpphmamapeaaPush
import Derived.Test.YtlohpphmamapeaaMarkC
import Derived.Test.YtlohpphmamapeaaWordC
namespace Go.Proofs.Ytlohpphmamapeaa
open Go.RowKit
set_option linter.unusedVariables false

theorem letter_int (x : Nat) (h : x < 4) : (UInt8.ofNat (((97 : Int) + (x : Int)).toNat)) = M.letter x := by
  unfold M.letter; congr 1
set_option maxRecDepth 100000 in
set_option maxHeartbeats 1000000 in
theorem letterOf_c (x : Nat) (w : World) (h : x < 4) : Calls Try.prog 130 #[.int .i64 (x : Int)] w fun e w' => e = .returned (.string ⟨[M.letter x].toArray⟩) ∧ Below w.heap.size w w' := by
  have hc := oneByte w (97 + (x : Int)) (by omega) (by omega)
  rw [letter_int x h] at hc
  go_enter Try.func130, Try.ntmps130
  go_wp2
  go_ret
  exact ⟨rfl, (Below.refl _ _).alloc (Nat.le_refl _) _⟩


end Go.Proofs.Ytlohpphmamapeaa
