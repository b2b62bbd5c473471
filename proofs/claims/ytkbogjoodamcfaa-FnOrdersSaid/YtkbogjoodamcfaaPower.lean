/-
  Contracts of CountLetter, PadZeros, PowerWord and RootOf.
  Conditions: lengths of at most 2^20.
-/
import Derived.Test.YtkbogjoodamcfaaLonger
import Derived.Deep.RegionHeld3
import Derived.Test.YtkbogjoodamcfaaModPower
import Derived.Test.YtkbogjoodamcfaaShelf
namespace Go.Proofs.Ytkbogjoodamcfaa
open Go.RowKit
set_option linter.unusedVariables false

theorem ret_sb {a b : List UInt8} {c : Bool} (h : a = b) : Ending.returned (.tuple #[.string ⟨a.toArray⟩, .bool c]) = .returned (.tuple #[.string ⟨b.toArray⟩, .bool c]) := by rw [h]
theorem ret_si {a b : List UInt8} {c d : Int} (h : a = b) (h' : c = d) : Ending.returned (.tuple #[.string ⟨a.toArray⟩, .int .i64 c]) = .returned (.tuple #[.string ⟨b.toArray⟩, .int .i64 d]) := by rw [h, h']





theorem count_in (l : List UInt8) (x : Nat) (h : x < 4) : M.CountLetter l (x : Int) = ((l.count (M.letter x) : Nat) : Int) := by
  unfold M.CountLetter
  rw [if_pos (by unfold M.within; simp; omega)]
  rfl
theorem count_out (l : List UInt8) (x : Int) (h : M.within x 0 3 = false) : M.CountLetter l x = 0 := by
  unfold M.CountLetter
  rw [if_neg (by simp [h])]
theorem count_step (l : List UInt8) (c : UInt8) (k : Nat) (h : k < l.length) : (l.take (k + 1)).count c = (l.take k).count c + if l[k] = c then 1 else 0 := by
  rw [List.take_succ_eq_append_getElem h, List.count_append, List.count_singleton]
  simp
set_option maxRecDepth 100000 in
set_option maxHeartbeats 1000000 in
theorem impl_CountLetter_c (l : List UInt8) (x : Int) (w : World) (hl : l.length ≤ 1048576) : Calls Try.prog 14 #[.string ⟨l.toArray⟩, .int .i64 x] w fun e w' => e = .returned (.int .i64 (M.CountLetter l x)) ∧ Below w.heap.size w w' := by
  by_cases hx : 0 ≤ x ∧ x ≤ 3
  case neg =>
    have hw : M.within x 0 3 = false := by unfold M.within; simp; omega
    rw [count_out l x hw]
    clear hx
    go_enter Try.func14, Try.ntmps14
    go_wp2_with (first | (go_at_call 22; refine (within_c _ _ _ _).mono ?_; rintro e w' ⟨rfl, rfl⟩))
    go_ret
    exact ⟨rfl, Below.refl _ _⟩
  case pos =>
    obtain ⟨x, rfl⟩ := Int.eq_ofNat_of_zero_le hx.1
    have hx4 : x < 4 := by omega
    rw [count_in l x hx4]
    have hw : M.within (x : Int) 0 3 = true := by unfold M.within; simp; omega
    have hC := Lib.hid (fun W => Try.strings_Count_one ⟨l.toArray⟩ (M.letter x) W)
    clear hx
    go_enter Try.func14, Try.ntmps14
    go_wp2_with fail
    refine (within_c _ _ _ _).mono ?_
    rintro e w1 ⟨rfl, rfl⟩
    go_wp2_with fail
    refine (letterOf_c x _ hx4).mono ?_
    rintro e w2 ⟨rfl, hb⟩
    go_wp2_with fail
    refine (hC.out _).mono ?_
    rintro e w3 ⟨rfl, rfl⟩
    go_wp2_with fail
    go_ret
    exact ⟨rfl, hb⟩



end Go.Proofs.Ytkbogjoodamcfaa
