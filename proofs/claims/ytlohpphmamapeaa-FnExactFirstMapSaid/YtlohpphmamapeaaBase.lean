/-
  Small facts that every walk of this seat uses: bytes of a string that is given by a list.
  Conditions: none; this text names no law.
-/
import Derived.Test.YtlohpphmamapeaaProg
import Derived.WalkKit
import Derived.WalkSpells
import Derived.WalkLawsBesides
import Derived.Deep.QuietTactic
import Derived.BigQuiet
import Derived.Lib.Hide
namespace Go.Proofs.Ytlohpphmamapeaa
open Go.RowKit
set_option linter.unusedVariables false

/-- A string's byte, the string given by its list. -/
theorem byteAt (l : List UInt8) (k : Nat) (h : k < (ByteArray.mk l.toArray).size) : (ByteArray.mk l.toArray)[k]'h = l[k]'(by simpa [ByteArray.size] using h) := rfl
attribute [go_sem] byteAt

theorem bytes_add (a b : List UInt8) : ByteArray.mk a.toArray ++ ByteArray.mk b.toArray = ByteArray.mk (a ++ b).toArray := by
  apply ByteArray.ext; simp
theorem bytes_cut (l : List UInt8) (i j : Nat) : (ByteArray.mk l.toArray).extract i j = ByteArray.mk ((l.drop i).take (j - i)).toArray := by
  apply ByteArray.ext; simp
theorem bytes_from (l : List UInt8) (i : Nat) : (ByteArray.mk l.toArray).extract i l.length = ByteArray.mk (l.drop i).toArray := by
  rw [bytes_cut, List.take_of_length_le (by simp)]
theorem bytes_to (l : List UInt8) (j : Nat) : (ByteArray.mk l.toArray).extract 0 j = ByteArray.mk (l.take j).toArray := by
  rw [bytes_cut]; simp
theorem bytes_one (l : List UInt8) (i : Nat) (h : i < l.length) : (ByteArray.mk l.toArray).extract i (i + 1) = ByteArray.mk [l[i]].toArray := by
  rw [bytes_cut, Nat.add_sub_cancel_left, List.drop_eq_getElem_cons h]; rfl
attribute [go_sem] bytes_add bytes_cut
attribute [go_sem high] bytes_from bytes_to bytes_one

theorem ret_int {k : IntKind} {a b : Int} (h : a = b) : Ending.returned (.int k a) = .returned (.int k b) := by rw [h]
theorem ret_bool {a b : Bool} (h : a = b) : Ending.returned (.bool a) = .returned (.bool b) := by rw [h]
theorem ret_str {a b : List UInt8} (h : a = b) : Ending.returned (.string ⟨a.toArray⟩) = .returned (.string ⟨b.toArray⟩) := by rw [h]

theorem u8_lt (c : UInt8) : (c.toNat : Int) < 256 := by have := c.toNat_lt; omega

theorem cell_set_ne {w : World} {b o b' o' : Nat} (u : Value) (h : b ≠ b' ∨ o ≠ o') : (w.setCell ⟨b, o, none⟩ u).cell? ⟨b', o', none⟩ = w.cell? ⟨b', o', none⟩ :=
  World.cell?_setCell_other w _ _ u (by intro e; injection e; omega)
theorem cell_set_eq {w : World} {b o : Nat} {u0 : Value} (u : Value) (h : w.cell? ⟨b, o, none⟩ = some u0) : (w.setCell ⟨b, o, none⟩ u).cell? ⟨b, o, none⟩ = some u :=
  World.cell?_setCell_same w _ u h

theorem below_drewN {B : Nat} {a w : World} (h : Below B a w) (n : Nat) : Below B a (w.drewN n) := ⟨h.os, h.tape, h.output, h.size, h.block⟩

section
variable {P : Program} {f : FuncId} {args : Array Value} {w : World} {v : Value}
/-- A contract that states 'w = w'', handed to a quiet region. -/
theorem quiet1 (h : Calls P f args w fun e w' => e = .returned v ∧ w = w') : Calls P f args w fun e w' => e = .returned v ∧ w' = w :=
  h.mono fun _ _ ⟨he, hw⟩ => ⟨he, hw.symm⟩
theorem quietD {n : Nat} (h : Calls P f args (w.drewN n) fun e w' => e = .returned v ∧ ∃ m, w' = (w.drewN n).drewN m) : Calls P f args (w.drewN n) fun e w' => e = .returned v ∧ ∃ m, w' = w.drewN m :=
  h.mono fun _ _ ⟨he, m, hm⟩ => ⟨he, n + m, by rw [hm, World.drewN_drewN]⟩
theorem quietN {n : Nat} (h : Calls P f args (w.drewN n) fun e w' => e = .returned v ∧ w.drewN n = w') : Calls P f args (w.drewN n) fun e w' => e = .returned v ∧ ∃ m, w' = w.drewN m :=
  h.mono fun _ _ ⟨he, hw⟩ => ⟨he, n, hw.symm⟩
end

theorem below_then {a b c : World} (h : Below a.heap.size a b) (k : Below b.heap.size b c) : Below a.heap.size a c := h.trans (k.mono h.size)
theorem below_drew1 {w w' : World} (hb : Below w.drew.heap.size w.drew w') : Below w.heap.size w w' := ((Below.refl _ _).drew).trans hb
theorem wrap_nat {q : Nat} (h : q ≤ 9223372036854775807) : IntKind.i64.wrap (q : Int) = (q : Int) := IntWalk.i64_in _ (by omega)
/-- What lay there before a call is there behind it. -/
theorem bcell {W w1 : World} (hb : Below W.heap.size W w1) : (∀ b o, b < W.heap.size → w1.cell? ⟨b, o, none⟩ = W.cell? ⟨b, o, none⟩) ∧ (∀ b o, b < W.heap.size → w1.frozen? ⟨b, o, none⟩ = W.frozen? ⟨b, o, none⟩) :=
  ⟨fun b o h => hb.cell (p := ⟨b, o, none⟩) h, fun b o h => hb.frozen (p := ⟨b, o, none⟩) h⟩

/-- Where a byte lies among digits and small letters. -/
theorem byteClass (c : UInt8) : ((0 : Int) ≤ c.toNat ∧ (c.toNat : Int) < 48) ∨ ((48 : Int) ≤ c.toNat ∧ (c.toNat : Int) ≤ 57) ∨ ((57 : Int) < c.toNat ∧ (c.toNat : Int) < 97) ∨ ((97 : Int) ≤ c.toNat ∧ (c.toNat : Int) ≤ 122) ∨ ((122 : Int) < c.toNat ∧ (c.toNat : Int) < 256) := by
  have := u8_lt c; omega

end Go.Proofs.Ytlohpphmamapeaa
