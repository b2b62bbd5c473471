/-
  Contracts of markText and of the marking of slices of strings.
  Conditions: at most 2^40 elements.
-/
import Derived.Test.YtkdccehihpgcdaaDoorEqC
import Derived.Deep.RegionHeld3
import Derived.StillTailTactics
namespace Go.Proofs.YtkdccehihpgcdaaDoor
open Go.RowKit
set_option linter.unusedVariables false

/-- 'string([]byte{x})', the slice just laid. -/
theorem oneByte (W : World) (x : Int) (h0 : 0 ≤ x) (h : x < 256) : (convert 27 9 (.slice (some ⟨W.heap.size, 0, none⟩) 1 1)).run Tryd.prog (W.alloc (.cells #[.int .u8 x] 5)) =
    .ok (.string ⟨[UInt8.ofNat x.toNat].toArray⟩) (W.alloc (.cells #[.int .u8 x] 5)) := by
  have hx : ((UInt8.ofNat x.toNat).toNat : Int) = x := by
    rw [UInt8.toNat_ofNat']
    omega
  exact run_convert_bytes_back (P := Tryd.prog) (W.alloc (.cells #[.int .u8 x] 5)) 27 9 5 ⟨W.heap.size, 0, none⟩ 1 [UInt8.ofNat x.toNat] Tryd.underlying27 Tryd.underlying5 Tryd.underlying9 (fun j hj => by
    obtain rfl : j = 0 := by simpa using hj
    have ha : (⟨W.heap.size, 0, none⟩ : Addr).add 0 = ⟨W.heap.size, 0, none⟩ := rfl
    rw [ha, World.cell?_alloc_at _ _ _ _ rfl]
    simp only [List.getElem_cons_zero]
    rw [hx]
    rfl)

/-- The decimal digits of n ahead of what stands there. -/
def digs : Nat → Nat → List UInt8 → List UInt8
  | 0, _, acc => acc
  | _ + 1, 0, acc => acc
  | f + 1, n + 1, acc => digs f ((n + 1) / 10) (UInt8.ofNat (48 + (n + 1) % 10) :: acc)
def markT (k : Int) : List UInt8 := 109 :: digs k.toNat k.toNat []
theorem digs_zero (f : Nat) (acc : List UInt8) : digs f 0 acc = acc := by cases f <;> rfl
theorem digs_len : ∀ (f n : Nat) (acc : List UInt8), (digs f n acc).length ≤ acc.length + f
  | 0, _, acc => by simp [digs]
  | f + 1, 0, acc => by simp [digs]
  | f + 1, n + 1, acc => by rw [digs]; have := digs_len f ((n + 1) / 10) (UInt8.ofNat (48 + (n + 1) % 10) :: acc); rw [List.length_cons] at this; omega
/-- More fuel than the number changes nothing. -/
theorem digs_fuel : ∀ (f g n : Nat) (acc : List UInt8), n ≤ f → n ≤ g → digs f n acc = digs g n acc
  | 0, g, n, acc, hf, _ => by obtain rfl : n = 0 := by omega
                              simp [digs_zero]
  | f + 1, 0, n, acc, _, hg => by obtain rfl : n = 0 := by omega
                                  simp [digs_zero]
  | f + 1, g + 1, 0, acc, _, _ => rfl
  | f + 1, g + 1, n + 1, acc, hf, hg => by
    rw [digs, digs]
    exact digs_fuel f g _ _ (by omega) (by omega)
theorem digs_step (n : Nat) (acc : List UInt8) (h : 0 < n) : digs n n acc = digs (n / 10) (n / 10) (UInt8.ofNat (48 + n % 10) :: acc) := by
  obtain ⟨m, rfl⟩ : ∃ m, n = m + 1 := ⟨n - 1, by omega⟩
  rw [digs]
  exact digs_fuel _ _ _ _ (by omega) (Nat.le_refl _)

set_option maxRecDepth 100000 in
set_option maxHeartbeats 1000000 in
theorem markText_c (k : Int) (w : World) (h0 : 1 ≤ k) (h1 : k ≤ 1099511627776) : Calls Tryd.prog 46 #[.int .i64 k] w fun e w' => e = .returned (.string ⟨(markT k).toArray⟩) ∧ Below w.heap.size w w' := by
  obtain ⟨K, rfl⟩ := Int.eq_ofNat_of_zero_le (show 0 ≤ k by omega)
  go_enter Tryd.func46, Tryd.ntmps46
  go_wp2
  go_loopw [0, 3] (fun a s wr => ∃ (n : Nat) (acc : List UInt8), n ≤ K ∧ a = .int .i64 n ∧ s = .string ⟨acc.toArray⟩ ∧ digs n n acc = digs K K [] ∧ acc.length + n ≤ K ∧ Below w.heap.size w wr) (fun a _ _ => (intOf a).toNat)
  case atStart => exact ⟨K, [], by omega, rfl, rfl, rfl, by simp, Below.refl _ _⟩
  case round =>
    obtain ⟨n, acc, hn, rfl, rfl, hd, hlen, hb⟩ := hrel
    have HD := Lib.hid hd
    have HB := Lib.hid hb
    clear hd hb
    by_cases hlt : 0 < n
    · have hc := oneByte wr (48 + (n : Int) % 10) (by omega) (by omega)
      have hal : acc.length ≤ 1099511627776 := by omega
      obtain ⟨x, hx⟩ : ∃ x : UInt8, x = UInt8.ofNat (48 + (n : Int) % 10).toNat := ⟨_, rfl⟩
      rw [← hx] at hc
      have hx' : x = UInt8.ofNat (48 + n % 10) := by rw [hx]; congr 1
      have HX := Lib.hid hx'
      clear hx hx'
      go_wp2
      go_roundw
      case rel => exact ⟨n / 10, x :: acc, by omega, by go_num, rfl, by rw [HX.out, ← digs_step n acc hlt]; exact HD.out, by rw [List.length_cons]; omega, HB.out.alloc HB.out.size _⟩
      case measure => simp [intOf]; omega
    · obtain rfl : n = 0 := by omega
      go_wp2
      go_ret
      exact ⟨ret_str (by rw [markT, Int.toNat_natCast, ← HD.out, digs_zero]), HB.out⟩

def markS (xs : List Value) (q : Int) (k : Nat) : List Value := (List.range k).map (fun j => Value.string ⟨(markT (q + (j : Nat))).toArray⟩) ++ xs.drop k
theorem markS_set (xs : List Value) (q : Int) (k : Nat) (h : k < xs.length) : (markS xs q k).set k (.string ⟨(markT (q + k)).toArray⟩) = markS xs q (k + 1) := by
  unfold markS
  rw [List.set_append_right _ _ (by simp), List.length_map, List.length_range, Nat.sub_self, List.drop_eq_getElem_cons h, List.set_cons_zero, List.range_succ, List.map_append]
  simp
def markedS (q : Int) (n : Nat) : List (List UInt8) := (List.range n).map fun j => markT (q + (j : Nat))
theorem markedS_len (q : Int) (n : Nat) : (markedS q n).length = n := by simp [markedS]
theorem markedS_at (q : Int) (n k : Nat) (h : k < (markedS q n).length) : (markedS q n)[k] = markT (q + k) := by simp [markedS]
theorem markS_all (xs : List Value) (q : Int) : markS xs q xs.length = strs (markedS q xs.length) := by simp [markS, strs, markedS]

set_option maxRecDepth 100000 in
set_option maxHeartbeats 1000000 in
theorem markStringS_c (A : Option Addr) (n c base : Nat) (cs : List Value) (q : Int) (w : World) (hA : Own w base 1 A n cs) (hn : n ≤ 1099511627) (hq0 : 1 ≤ q) (hq : q ≤ 1099511627) :
    Calls Tryd.prog 21 #[.slice A n c, .int .i64 q] w fun e w' => e = .returned (.int .i64 (q + n)) ∧ Own w' base 1 A n (strs (markedS q n)) ∧ w.grownBy w' (blk A n) := by
  have hlen : cs.length = n := by simpa using hA.1
  have HL := Lib.hid hlen
  have HA := Lib.hid hA
  clear hlen hA
  go_enter Tryd.func21, Tryd.ntmps21
  go_wp2
  go_loopw [1, 5] (fun q' i wr => ∃ k : Nat, k ≤ n ∧ i = .int .i64 k ∧ q' = .int .i64 (q + k) ∧ Own wr base 1 A n (markS cs q k) ∧ w.grownBy wr (blk A n)) (fun _ i _ => n - (intOf i).toNat)
  case atStart => exact ⟨0, by omega, rfl, by simp, by simpa [markS] using HA.out, World.grownBy.refl w _⟩
  case round =>
    obtain ⟨k, hk, rfl, rfl, hown, hg⟩ := hrel
    by_cases hlt : k < n
    · have HO := Lib.hid hown
      have HG := Lib.hid hg
      clear hown hg
      obtain ⟨b, o, rfl, _⟩ := HO.out.cells (by omega)
      go_wp2_with fail
      refine (markText_c _ _ (by omega) (by omega)).mono ?_
      rintro e w1 ⟨rfl, hb1⟩
      have hown := HO.out.below hb1
      have hlm : k < (markS cs q k).length := by have := hown.1; omega
      obtain ⟨b', o', e1, _, _, hz, hf, hst⟩ := hown.cells (by omega)
      injection e1 with e1
      injection e1 with e1 e2
      subst e1 e2
      obtain ⟨u, hu⟩ : ∃ u, w1.cell? ⟨b, o + k, none⟩ = some u := ⟨_, hz k _ (List.getElem?_eq_getElem hlm)⟩
      have hf1 := hf k
      have HST := Lib.hid (hst k (.string ⟨(markT (q + k)).toArray⟩))
      have HB := Lib.hid hb1
      clear hown hb1 hz hf hst
      go_wp2
      go_roundw
      case rel => exact ⟨k + 1, by omega, by go_num, by go_num, by rw [← markS_set cs q k (by rw [HL.out]; exact hlt)]; exact HST.out.1, (HG.out.trans (grown_of_below HB.out _)).trans (by unfold blk; rw [if_neg (by omega)]; exact HST.out.2)⟩
      case measure => simp [intOf]; omega
    · obtain rfl : k = n := by omega
      have HO := Lib.hid hown
      have HG := Lib.hid hg
      clear hown hg
      go_wp2
      go_ret
      exact ⟨rfl, by have := HO.out; rw [← HL.out] at this ⊢; rwa [markS_all] at this, HG.out⟩
set_option maxRecDepth 100000 in
set_option maxHeartbeats 1000000 in
theorem heldStringS_c (A : Option Addr) (n c : Nat) (q : Int) (w : World) (hA : Rd w 1 A n (strs (markedS q n))) (hn : n ≤ 1099511627) (hq0 : 1 ≤ q) (hq : q ≤ 1099511627) :
    Calls Tryd.prog 22 #[.slice A n c, .int .i64 q] w fun e w' => e = .returned (.int .i64 (q + n)) ∧ Below w.heap.size w w' := by
  have HA := Lib.hid hA
  clear hA
  go_enter Tryd.func22, Tryd.ntmps22
  go_wp2
  go_loopw [1, 5] (fun q' i wr => ∃ k : Nat, k ≤ n ∧ i = .int .i64 k ∧ q' = .int .i64 (q + k) ∧ Below w.heap.size w wr) (fun _ i _ => n - (intOf i).toNat)
  case atStart => exact ⟨0, by omega, rfl, by simp, Below.refl _ _⟩
  case round =>
    obtain ⟨k, hk, rfl, rfl, hb⟩ := hrel
    have HB := Lib.hid hb
    clear hb
    by_cases hlt : k < n
    · obtain ⟨b, o, rfl, hz, hc⟩ := (HA.out.below HB.out).strAt hlt
      rw [markedS_at] at hc
      have HC := Lib.hid hc
      have hcall := fun W => markText_c (q + k) W (by omega) (by omega)
      have HM := Lib.hid hcall
      clear hcall
      go_wp2_with fail
      go_region_with (go_at_call 46; refine (HM.out _).mono ?_; rintro e w1 ⟨rfl, hb1⟩; have hc1 := cellKeep hb1 HC.out)
      all_goals
        go_wp2
        go_roundw
        case rel => exact ⟨k + 1, by omega, by go_num, by go_num, (HB.out.drew).trans (hb1.mono HB.out.size)⟩
        case measure => simp [intOf]; omega
    · obtain rfl : k = n := by omega
      go_wp2
      go_ret
      exact ⟨rfl, HB.out⟩

end Go.Proofs.YtkdccehihpgcdaaDoor
