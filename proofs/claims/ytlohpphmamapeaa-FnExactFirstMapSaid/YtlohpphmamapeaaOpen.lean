/-
  The arguments of the laws, opened: what a value that can be read looks like.
  Conditions: none; this text names no law.
-/
import Derived.Test.YtlohpphmamapeaaFrame
import Derived.Test.YtlohpphmamapeaaBase
import Derived.Test.YtlohpphmamapeaaModel
import Derived.Lib.SmallJoins
import Derived.Deep.Slices
import Derived.Deep.Fields
namespace Go.Proofs.Ytlohpphmamapeaa
open Go.ChangeShapes Go.WideShapes Go.ChangeAt Go.RowKit Go.Joins

theorem bytesList (s : ByteArray) : ∃ l : List UInt8, s = ⟨l.toArray⟩ := ⟨s.data.toList, by cases s; simp⟩
theorem bytesLen {l : List UInt8} (h : (ByteArray.mk l.toArray).size ≤ maxLen) : l.length ≤ 9223372036854775807 := by simpa [ByteArray.size, maxLen] using h
theorem intBounds {n : Int} (h : (Lit.int .i64 n).wf = true) : -9223372036854775808 ≤ n ∧ n ≤ 9223372036854775807 := by
  have h1 : IntKind.i64.min = -9223372036854775808 := rfl
  have h2 : IntKind.i64.max = 9223372036854775807 := rfl
  simp only [Lit.wf, Bool.and_eq_true, decide_eq_true_eq] at h
  omega

section
variable {H : Type} {enc : TypeId × Value → H} {w : World} {b0 : Nat} {held : Bool} {spare : Nat → Bool} {v : Value} {d : DataW H} {p : List MemPlace}
set_option maxRecDepth 100000 in
theorem openOneString {n : Nat} {v : Value} {y : DataW H × List MemPlace} (h : DataW.trod enc Try.prog w 0 spare held n 9 [v] = some y) :
    ∃ l : List UInt8, v = .string ⟨l.toArray⟩ ∧ l.length ≤ 9223372036854775807 := by
  obtain ⟨s, e, _, hs⟩ := DataW.trod_string Try.underlying9 h
  obtain ⟨l, rfl⟩ := bytesList s
  simp only [List.cons.injEq, and_true] at e
  exact ⟨l, e, bytesLen hs⟩
theorem Try.cellsLawRule : Try.prog.cellsOf 135 = 2 := by kernel_rfl
set_option maxRecDepth 100000 in
theorem openRule (hv : Value.okWide Try.prog w .any b0 135 v) (h : DataW.Trod enc Try.prog w 0 spare held 135 v d p) :
    ∃ r : M.Rule, v = .agg #[.string ⟨r.left.toArray⟩, .string ⟨r.right.toArray⟩] ∧ (r.left.length ≤ 9223372036854775807 ∧ r.right.length ≤ 9223372036854775807) := by
  obtain ⟨c0, c1, y0, y1, m, rfl, rfl, rfl, hy0, hy1⟩ := open_agg2 Try.underlying135 (by kernel_rfl) Try.cellsLawRule hv h
  obtain ⟨l, rfl, hl⟩ := openOneString hy0
  obtain ⟨r, rfl, hr⟩ := openOneString hy1
  exact ⟨⟨l, r⟩, rfl, hl, hr⟩
end

end Go.Proofs.Ytlohpphmamapeaa
