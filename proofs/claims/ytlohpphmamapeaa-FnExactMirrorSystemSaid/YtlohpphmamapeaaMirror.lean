/-
  Contracts of MirrorWord and of what it calls: each call returns the word in reverse order.
  Conditions: lengths of at most 2^20.
-/
import Derived.Test.YtlohpphmamapeaaWordC
import Derived.BigRegion
import Derived.Lib.ConvBytes
namespace Go.Proofs.Ytlohpphmamapeaa
open Go.RowKit
set_option linter.unusedVariables false

/-- The byte at a place when k pairs have been exchanged. -/
def revAt (l : List UInt8) (k j : Nat) : UInt8 := if j < k ∨ l.length - 1 - j < k then l.getD (l.length - 1 - j) 0 else l.getD j 0

theorem revAt_step {l : List UInt8} {b k m : Nat} {w : World} (hm : m = l.length - 1 - k) (hkm : k < m) (hl : m < l.length)
    (hc : ∀ j, j < l.length → w.cell? ⟨b, j, none⟩ = some (.int .u8 ((revAt l k j).toNat : Int))) :
    ∀ j, j < l.length → (((w.setCell ⟨b, k, none⟩ (.int .u8 ((revAt l k m).toNat : Int))).setCell ⟨b, m, none⟩ (.int .u8 ((revAt l k k).toNat : Int))).drew).cell? ⟨b, j, none⟩ = some (.int .u8 ((revAt l (k + 1) j).toNat : Int)) := by
  intro j hj
  show ((w.setCell ⟨b, k, none⟩ _).setCell ⟨b, m, none⟩ _).cell? ⟨b, j, none⟩ = _
  have ek : revAt l k k = l.getD k 0 := by unfold revAt; rw [if_neg (by omega)]
  have em : revAt l k m = l.getD m 0 := by unfold revAt; rw [if_neg (by omega)]
  by_cases h1 : j = m
  · subst h1
    have h0 : (w.setCell ⟨b, k, none⟩ (.int .u8 ((revAt l k j).toNat : Int))).cell? ⟨b, j, none⟩ = some (.int .u8 ((revAt l k j).toNat : Int)) := by
      rw [cell_set_ne _ (Or.inr (by omega))]; exact hc j hj
    rw [cell_set_eq _ h0, ek]
    unfold revAt
    rw [if_pos (by omega), show l.length - 1 - j = k by omega]
  · rw [cell_set_ne _ (Or.inr (by omega))]
    by_cases h2 : j = k
    · subst h2
      rw [cell_set_eq _ (hc j hj), em]
      unfold revAt
      rw [if_pos (by omega), hm]
    · rw [cell_set_ne _ (Or.inr (by omega)), hc j hj]
      unfold revAt
      by_cases h3 : j < k ∨ l.length - 1 - j < k
      · rw [if_pos h3, if_pos (by omega)]
      · rw [if_neg h3, if_neg (by omega)]

set_option maxRecDepth 100000 in
set_option maxHeartbeats 1000000 in
theorem reverseBytes_c (l : List UInt8) (b c B : Nat) (w : World) (hl : l.length ≤ 1048576) (hB : B ≤ b)
    (hc : ∀ j, j < l.length → w.cell? ⟨b, j, none⟩ = some (.int .u8 ((l.getD j 0).toNat : Int))) (hf : ∀ j, j < l.length → w.frozen? ⟨b, j, none⟩ = false) :
    Calls Try.prog 125 #[.slice (some ⟨b, 0, none⟩) l.length c] w fun e w' => e = .returned (.tuple #[]) ∧ Below B w w' ∧
      (∀ j, j < l.length → w'.cell? ⟨b, j, none⟩ = some (.int .u8 ((l.getD (l.length - 1 - j) 0).toNat : Int))) := by
  go_enter Try.func125, Try.ntmps125
  go_wp2
  go_loopw [2, 3] (fun i j wr => ∃ k : Nat, k ≤ l.length ∧ i = .int .i64 k ∧ j = .int .i64 ((l.length : Int) - 1 - k) ∧ Below B w wr ∧
     (∀ j, j < l.length → wr.cell? ⟨b, j, none⟩ = some (.int .u8 ((revAt l k j).toNat : Int))) ∧ (∀ j, j < l.length → wr.frozen? ⟨b, j, none⟩ = false)) (fun i _ _ => l.length - (intOf i).toNat)
  case atStart => exact ⟨0, by omega, rfl, by simp, Below.refl _ _, fun j hj => by simp [revAt, hc j hj], hf⟩
  case round =>
    obtain ⟨k, hk, rfl, rfl, hb, hcr, hfr⟩ := hrel
    by_cases hlt : (k : Int) < (l.length : Int) - 1 - k
    · obtain ⟨m, hm⟩ : ∃ m : Nat, m = l.length - 1 - k := ⟨_, rfl⟩
      have e1 : (l.length : Int) - 1 - k = (m : Int) := by omega
      rw [e1] at hlt ⊢
      have c1 := hcr k (by omega)
      have c2 := hcr m (by omega)
      have f1 := hfr k (by omega)
      have f2 := hfr m (by omega)
      have i1 : (k : Int) < l.length := by omega
      have i2 : (m : Int) < l.length := by omega
      have HM := Lib.hid hm
      have HC := Lib.hid hcr
      have HF := Lib.hid hfr
      clear hm hcr hfr e1 hc hf
      go_wp2
      go_region
      go_wp2
      go_roundw
      case rel => exact ⟨k + 1, by omega, by go_num, by have := HM.out; congr 1; omega, ((hb.setCell hB _).setCell hB _).drew, revAt_step HM.out (by omega) (by omega) HC.out, fun j hj => by have := HF.out j hj; simpa using this⟩
      case measure => simp [intOf]; omega
    · go_wp2
      go_end0
      refine ⟨rfl, hb, fun j hj => ?_⟩
      rw [hcr j hj]
      unfold revAt
      by_cases h3 : j < k ∨ l.length - 1 - j < k
      · rw [if_pos h3]; simp
      · rw [if_neg h3, show l.length - 1 - j = j by omega]; simp

set_option maxRecDepth 100000 in
set_option maxHeartbeats 1000000 in
theorem spec_MirrorWord_c (l : List UInt8) (w : World) (hl : l.length ≤ 1048576) : Calls Try.prog 62 #[.string ⟨l.toArray⟩] w fun e w' => e = .returned (.string ⟨l.reverse.toArray⟩) ∧ w = w' := by
  go_enter Try.func62, Try.ntmps62
  go_wp2
  go_loop [3, 4] (fun s i => ∃ k : Nat, k ≤ l.length ∧ i = .int .i64 ((k : Int) - 1) ∧ s = .string ⟨(l.drop k).reverse.toArray⟩) (fun _ i => (intOf i + 1).toNat)
  case atStart => exact ⟨l.length, by omega, rfl, by simp⟩
  case round =>
    obtain ⟨k, hk, rfl, rfl⟩ := hrel
    by_cases h0 : k = 0
    · subst h0
      go_wp2
      go_ret
      exact ⟨by simp, rfl⟩
    · obtain ⟨j, rfl⟩ : ∃ j, k = j + 1 := ⟨k - 1, by omega⟩
      have e1 : ((j + 1 : Nat) : Int) - 1 = (j : Int) := by omega
      rw [e1]
      have hj : j < l.length := by omega
      obtain ⟨y, hy⟩ : ∃ y, y = (l.drop (j + 1)).reverse := ⟨_, rfl⟩
      have hx : (l.drop j).reverse = y ++ [l[j]] := by rw [hy, List.drop_eq_getElem_cons (by omega)]; simp
      have HX := Lib.hid hx
      have hyl : y.length ≤ 1048576 := by rw [hy]; simp; omega
      rw [← hy]
      clear hx e1 hy
      go_wp2
      go_round
      case rel => exact ⟨j, by omega, by go_num, by rw [HX.out]⟩
      case measure => simp [intOf]

/-- '[]byte(s)': a new row of the call's own with the string's bytes. -/
theorem toBytes (l : List UInt8) (w : World) : ∃ (cap : Nat) (w1 : World), (convert 9 75 (.string ⟨l.toArray⟩)).run Try.prog w = .ok (.slice (some ⟨w.heap.size, 0, none⟩) l.length cap) w1 ∧ Below w.heap.size w w1 ∧ w1.heap.size = w.heap.size + 1 ∧
    (∀ j, j < l.length → w1.cell? ⟨w.heap.size, j, none⟩ = some (.int .u8 ((l.getD j 0).toNat : Int))) ∧ (∀ j, j < l.length → w1.frozen? ⟨w.heap.size, j, none⟩ = false) := by
  have h := Lib.run_convert_string_bytes (P := Try.prog) w 9 75 5 ⟨l.toArray⟩ Try.underlying9 Try.underlying75 Try.underlying5
  refine ⟨_, _, h, ?_, Lib.bytesWorld_size _ _ _, fun j hj => ?_, fun j hj => ?_⟩
  · exact ⟨rfl, rfl, rfl, by rw [Lib.bytesWorld_size]; omega, fun k hk => Lib.bytesWorld_at_old w _ _ k hk⟩
  · exact Lib.bytesWorld_cell w _ ⟨l.toArray⟩ j (by simpa [ByteArray.size] using hj)
  · have hc := Lib.bytesWorld_at_new w 5 ⟨l.toArray⟩
    have hs : l.length ≤ (Lib.bytesCells w 5 ⟨l.toArray⟩).size := by simp [Lib.bytesCells]
    simp only [World.frozen?, hc]
    simp
    omega

set_option maxRecDepth 100000 in
set_option maxHeartbeats 1000000 in
theorem impl_MirrorWord_c (l : List UInt8) (w : World) (hl : l.length ≤ 1048576) : Calls Try.prog 65 #[.string ⟨l.toArray⟩] w fun e w' => e = .returned (.string ⟨l.reverse.toArray⟩) ∧ Below w.heap.size w w' := by
  obtain ⟨cap, w1, hconv, hb1, hs1, hc1, hf1⟩ := toBytes l w
  have HC := Lib.hid hc1
  have HF := Lib.hid hf1
  have HS := Lib.hid hs1
  clear hc1 hf1 hs1
  go_enter Try.func65, Try.ntmps65
  go_wp2_with fail
  refine (reverseBytes_c l w.heap.size cap w.heap.size w1 hl (Nat.le_refl _) HC.out HF.out).mono ?_
  rintro e w2 ⟨rfl, hb2, hc2⟩
  have hrev : ∀ j (hj : j < l.reverse.length), w2.cell? ((⟨w.heap.size, 0, none⟩ : Addr).add j) = some (.int .u8 ((l.reverse)[j].toNat : Int)) := by
    intro j hj
    simp only [List.length_reverse] at hj
    have ha : (⟨w.heap.size, 0, none⟩ : Addr).add j = ⟨w.heap.size, j, none⟩ := by unfold Addr.add; split <;> simp_all
    rw [ha, hc2 j hj, List.getElem_reverse]
    simp [List.getElem?_eq_getElem (show l.length - 1 - j < l.length by omega)]
  have hback := run_convert_bytes_back (P := Try.prog) w2 75 9 5 ⟨w.heap.size, 0, none⟩ cap l.reverse Try.underlying75 Try.underlying5 Try.underlying9 hrev
  rw [List.length_reverse] at hback
  clear hrev hc2 hconv
  go_wp2
  go_ret
  exact ⟨rfl, hb1.trans hb2⟩

end Go.Proofs.Ytlohpphmamapeaa
