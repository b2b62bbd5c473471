/-
  The laws' helpers on slices of integers and on tables: measured, copied, compared; openers.
  Conditions: at most 2^20 elements.
-/
import Derived.Test.YtoijojdegohknaaEqC
import Derived.Test.YtoijojdegohknaaPart
import Derived.Test.YtoijojdegohknaaOpen2
import Derived.Test.YtoijojdegohknaaToB
namespace Go.Proofs.Ytoijojdegohknaa
open Go.ChangeShapes Go.WideShapes Go.ChangeAt Go.RowKit Go.Joins Go.Deep
set_option linter.unusedVariables false

def int1 (z : Int) : List Value := [.int .i64 z]
theorem ints_flat : ∀ zs : List Int, zs.flatMap int1 = ints zs
  | [] => rfl
  | z :: zs => by rw [List.flatMap_cons, ints_flat zs]; rfl
theorem part1 {rs : List Int} {zs : List Value} {k : Nat} (hk : k < rs.length) (hz : zs.length = rs.length) : (part int1 rs zs 1 k).set k (.int .i64 rs[k]) = part int1 rs zs 1 (k + 1) := by
  have hl := part_len (f := int1) (s := 1) (fun _ => rfl) rs k
  rw [Nat.min_eq_left (by omega), Nat.mul_one] at hl
  unfold part
  rw [Nat.mul_one, List.drop_eq_getElem_cons (l := zs) (i := k) (by omega), set_here _ _ _ _ hl.symm, List.take_succ_eq_append_getElem hk, List.flatMap_append, Nat.mul_one]
  simp [int1]

section
variable {H : Type} {enc : TypeId × Value → H} {w : World} {b0 : Nat} {held : Bool} {spare : Nat → Bool} {v : Value} {d : DataW H} {p : List MemPlace}
theorem Try.cellsInt : Try.prog.cellsOf 3 = 1 := by kernel_rfl
set_option maxRecDepth 100000 in
theorem openIntSlice {n : Nat} {v : Value} {y : DataW H × List MemPlace} (h : DataW.trod enc Try.prog w 0 spare held n 108 [v] = some y) :
    ∃ (A : Option Addr) (c : Nat) (zs : List Int), v = .slice A zs.length c ∧ zs.length ≤ 9223372036854775807 ∧ Rd w 1 A zs.length (ints zs) ∧ ∀ z ∈ zs, -9223372036854775808 ≤ z ∧ z ≤ 9223372036854775807 := by
  obtain ⟨A, c, zs, e, h1, h2, h3⟩ := openElems int1 (fun z => -9223372036854775808 ≤ z ∧ z ≤ 9223372036854775807) (fun _ => rfl) (by decide) Try.underlying108 Try.cellsInt (fun m cs y hl hy => by
    match cs, hl with
    | [c0], _ =>
      obtain ⟨k, rfl, hk⟩ := openOneInt hy
      exact ⟨k, rfl, hk⟩) h
  exact ⟨A, c, zs, e, h1, by rwa [ints_flat] at h2, h3⟩
set_option maxRecDepth 100000 in
theorem openInts (hv : Value.okWide Try.prog w .any b0 108 v) (h : DataW.Trod enc Try.prog w 0 spare held 108 v d p) :
    ∃ (A : Option Addr) (c : Nat) (zs : List Int), v = .slice A zs.length c ∧ (zs.length ≤ 9223372036854775807 ∧ Rd w 1 A zs.length (ints zs) ∧ ∀ z ∈ zs, -9223372036854775808 ≤ z ∧ z ≤ 9223372036854775807) := by
  obtain ⟨a0, len, cap, rfl⟩ := okWide_slice Try.underlying108 hv
  obtain ⟨fuel, hf⟩ := h
  obtain ⟨A, c, xs, e, h1, h2, h3⟩ := openIntSlice (v := .slice a0 len cap) (by simpa [Value.cells] using hf)
  exact ⟨A, c, xs, e, h1, h2, h3⟩
end

end Go.Proofs.Ytoijojdegohknaa
