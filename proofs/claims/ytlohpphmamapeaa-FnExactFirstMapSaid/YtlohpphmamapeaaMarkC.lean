/-
  Contracts of markText and of the marking of slices of strings.
  Conditions: at most 2^40 elements.
-/
import Derived.Test.YtlohpphmamapeaaEqC
import Derived.Deep.RegionHeld3
import Derived.StillTailTactics
namespace Go.Proofs.Ytlohpphmamapeaa
open Go.RowKit
set_option linter.unusedVariables false

/-- 'string([]byte{x})', the slice just laid. -/
theorem oneByte (W : World) (x : Int) (h0 : 0 ≤ x) (h : x < 256) : (convert 75 9 (.slice (some ⟨W.heap.size, 0, none⟩) 1 1)).run Try.prog (W.alloc (.cells #[.int .u8 x] 5)) =
    .ok (.string ⟨[UInt8.ofNat x.toNat].toArray⟩) (W.alloc (.cells #[.int .u8 x] 5)) := by
  have hx : ((UInt8.ofNat x.toNat).toNat : Int) = x := by
    rw [UInt8.toNat_ofNat']
    omega
  exact run_convert_bytes_back (P := Try.prog) (W.alloc (.cells #[.int .u8 x] 5)) 75 9 5 ⟨W.heap.size, 0, none⟩ 1 [UInt8.ofNat x.toNat] Try.underlying75 Try.underlying5 Try.underlying9 (fun j hj => by
    obtain rfl : j = 0 := by simpa using hj
    have ha : (⟨W.heap.size, 0, none⟩ : Addr).add 0 = ⟨W.heap.size, 0, none⟩ := rfl
    rw [ha, World.cell?_alloc_at _ _ _ _ rfl]
    simp only [List.getElem_cons_zero]
    rw [hx]
    rfl)

/-- The decimal digits of n ahead of what stands there. -/
def digs : Nat → Nat → List UInt8 → List UInt8
  | 0, _, acc => acc
  | _ + 1, 0, acc => acc
  | f + 1, n + 1, acc => digs f ((n + 1) / 10) (UInt8.ofNat (48 + (n + 1) % 10) :: acc)
def markT (k : Int) : List UInt8 := 109 :: digs k.toNat k.toNat []
theorem digs_zero (f : Nat) (acc : List UInt8) : digs f 0 acc = acc := by cases f <;> rfl
theorem digs_len : ∀ (f n : Nat) (acc : List UInt8), (digs f n acc).length ≤ acc.length + f
  | 0, _, acc => by simp [digs]
  | f + 1, 0, acc => by simp [digs]
  | f + 1, n + 1, acc => by rw [digs]; have := digs_len f ((n + 1) / 10) (UInt8.ofNat (48 + (n + 1) % 10) :: acc); rw [List.length_cons] at this; omega
/-- More fuel than the number changes nothing. -/
theorem digs_fuel : ∀ (f g n : Nat) (acc : List UInt8), n ≤ f → n ≤ g → digs f n acc = digs g n acc
  | 0, g, n, acc, hf, _ => by obtain rfl : n = 0 := by omega
                              simp [digs_zero]
  | f + 1, 0, n, acc, _, hg => by obtain rfl : n = 0 := by omega
                                  simp [digs_zero]
  | f + 1, g + 1, 0, acc, _, _ => rfl
  | f + 1, g + 1, n + 1, acc, hf, hg => by
    rw [digs, digs]
    exact digs_fuel f g _ _ (by omega) (by omega)
theorem digs_step (n : Nat) (acc : List UInt8) (h : 0 < n) : digs n n acc = digs (n / 10) (n / 10) (UInt8.ofNat (48 + n % 10) :: acc) := by
  obtain ⟨m, rfl⟩ : ∃ m, n = m + 1 := ⟨n - 1, by omega⟩
  rw [digs]
  exact digs_fuel _ _ _ _ (by omega) (Nat.le_refl _)

set_option maxRecDepth 100000 in
set_option maxHeartbeats 1000000 in
theorem markText_c (k : Int) (w : World) (h0 : 1 ≤ k) (h1 : k ≤ 1099511627776) : Calls Try.prog 111 #[.int .i64 k] w fun e w' => e = .returned (.string ⟨(markT k).toArray⟩) ∧ Below w.heap.size w w' := by
  obtain ⟨K, rfl⟩ := Int.eq_ofNat_of_zero_le (show 0 ≤ k by omega)
  go_enter Try.func111, Try.ntmps111
  go_wp2
  go_loopw [0, 3] (fun a s wr => ∃ (n : Nat) (acc : List UInt8), n ≤ K ∧ a = .int .i64 n ∧ s = .string ⟨acc.toArray⟩ ∧ digs n n acc = digs K K [] ∧ acc.length + n ≤ K ∧ Below w.heap.size w wr) (fun a _ _ => (intOf a).toNat)
  case atStart => exact ⟨K, [], by omega, rfl, rfl, rfl, by simp, Below.refl _ _⟩
  case round =>
    obtain ⟨n, acc, hn, rfl, rfl, hd, hlen, hb⟩ := hrel
    have HD := Lib.hid hd
    have HB := Lib.hid hb
    clear hd hb
    by_cases hlt : 0 < n
    · have hc := oneByte wr (48 + (n : Int) % 10) (by omega) (by omega)
      have hal : acc.length ≤ 1099511627776 := by omega
      obtain ⟨x, hx⟩ : ∃ x : UInt8, x = UInt8.ofNat (48 + (n : Int) % 10).toNat := ⟨_, rfl⟩
      rw [← hx] at hc
      have hx' : x = UInt8.ofNat (48 + n % 10) := by rw [hx]; congr 1
      have HX := Lib.hid hx'
      clear hx hx'
      go_wp2
      go_roundw
      case rel => exact ⟨n / 10, x :: acc, by omega, by go_num, rfl, by rw [HX.out, ← digs_step n acc hlt]; exact HD.out, by rw [List.length_cons]; omega, HB.out.alloc HB.out.size _⟩
      case measure => simp [intOf]; omega
    · obtain rfl : n = 0 := by omega
      go_wp2
      go_ret
      exact ⟨ret_str (by rw [markT, Int.toNat_natCast, ← HD.out, digs_zero]), HB.out⟩


end Go.Proofs.Ytlohpphmamapeaa
