/-
  A law's argument of bytes, opened.
  Conditions: none; this text names no law.
-/
import Derived.Test.YtkdccehihpgcdaaDoorMake
import Derived.Test.YtkdccehihpgcdaaDoorOpen2
namespace Go.Proofs.YtkdccehihpgcdaaDoor
open Go.ChangeShapes Go.WideShapes Go.ChangeAt Go.RowKit Go.Joins Go.Deep
set_option linter.unusedVariables false

section
variable {H : Type} {enc : TypeId × Value → H} {w : World} {b0 : Nat} {held : Bool} {spare : Nat → Bool} {v : Value} {d : DataW H} {p : List MemPlace}
def u81 (x : UInt8) : List Value := [.int .u8 (x.toNat : Int)]
theorem u8s_flat : ∀ l : List UInt8, l.flatMap u81 = u8s l
  | [] => rfl
  | z :: zs => by rw [List.flatMap_cons, u8s_flat zs]; rfl
theorem Tryd.cellsU8 : Tryd.prog.cellsOf 5 = 1 := by kernel_rfl
theorem openOneU8 {n : Nat} {v : Value} {y : DataW H × List MemPlace} (h : DataW.trod enc Tryd.prog w 0 spare held n 5 [v] = some y) : ∃ x : UInt8, v = .int .u8 (x.toNat : Int) := by
  obtain ⟨k, e, _, hs⟩ := DataW.trod_int Tryd.underlying5 h
  simp only [List.cons.injEq, and_true] at e
  have h1 : IntKind.u8.min = 0 := rfl
  have h2 : IntKind.u8.max = 255 := rfl
  simp only [Lit.wf, Bool.and_eq_true, decide_eq_true_eq] at hs
  refine ⟨UInt8.ofNat k.toNat, ?_⟩
  rw [e, UInt8.toNat_ofNat']
  congr 1
  omega
set_option maxRecDepth 100000 in
theorem openByteSlice {n : Nat} {v : Value} {y : DataW H × List MemPlace} (h : DataW.trod enc Tryd.prog w 0 spare held n 27 [v] = some y) :
    ∃ (A : Option Addr) (c : Nat) (l : List UInt8), v = .slice A l.length c ∧ l.length ≤ 9223372036854775807 ∧ Rd w 1 A l.length (u8s l) := by
  obtain ⟨A, c, zs, e, h1, h2, _⟩ := openElems u81 (fun _ => True) (fun _ => rfl) (by decide) Tryd.underlying27 Tryd.cellsU8 (fun m cs y hl hy => by
    match cs, hl with
    | [c0], _ =>
      obtain ⟨k, rfl⟩ := openOneU8 hy
      exact ⟨k, rfl, trivial⟩) h
  exact ⟨A, c, zs, e, h1, by rwa [u8s_flat] at h2⟩
set_option maxRecDepth 100000 in
theorem openBytes (hv : Value.okWide Tryd.prog w .any b0 27 v) (h : DataW.Trod enc Tryd.prog w 0 spare held 27 v d p) :
    ∃ (A : Option Addr) (c : Nat) (l : List UInt8), v = .slice A l.length c ∧ (l.length ≤ 9223372036854775807 ∧ Rd w 1 A l.length (u8s l)) := by
  obtain ⟨a0, len, cap, rfl⟩ := okWide_slice Tryd.underlying27 hv
  obtain ⟨fuel, hf⟩ := h
  obtain ⟨A, c, xs, e, h1, h2⟩ := openByteSlice (v := .slice a0 len cap) (by simpa [Value.cells] using hf)
  exact ⟨A, c, xs, e, h1, h2⟩
end

end Go.Proofs.YtkdccehihpgcdaaDoor
