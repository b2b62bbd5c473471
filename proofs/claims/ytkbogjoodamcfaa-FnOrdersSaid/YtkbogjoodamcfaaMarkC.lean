/-
  Contracts of markText and of the marking of slices of strings.
  Conditions: at most 2^40 elements.
-/
import Derived.Test.YtkbogjoodamcfaaEqC
import Derived.Deep.RegionHeld3
import Derived.StillTailTactics
namespace Go.Proofs.Ytkbogjoodamcfaa
open Go.RowKit
set_option linter.unusedVariables false

/-- 'string([]byte{x})', the slice just laid. -/
theorem oneByte (W : World) (x : Int) (h0 : 0 ≤ x) (h : x < 256) : (convert 28 9 (.slice (some ⟨W.heap.size, 0, none⟩) 1 1)).run Try.prog (W.alloc (.cells #[.int .u8 x] 5)) =
    .ok (.string ⟨[UInt8.ofNat x.toNat].toArray⟩) (W.alloc (.cells #[.int .u8 x] 5)) := by
  have hx : ((UInt8.ofNat x.toNat).toNat : Int) = x := by
    rw [UInt8.toNat_ofNat']
    omega
  exact run_convert_bytes_back (P := Try.prog) (W.alloc (.cells #[.int .u8 x] 5)) 28 9 5 ⟨W.heap.size, 0, none⟩ 1 [UInt8.ofNat x.toNat] Try.underlying28 Try.underlying5 Try.underlying9 (fun j hj => by
    obtain rfl : j = 0 := by simpa using hj
    have ha : (⟨W.heap.size, 0, none⟩ : Addr).add 0 = ⟨W.heap.size, 0, none⟩ := rfl
    rw [ha, World.cell?_alloc_at _ _ _ _ rfl]
    simp only [List.getElem_cons_zero]
    rw [hx]
    rfl)



end Go.Proofs.Ytkbogjoodamcfaa
