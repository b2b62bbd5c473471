/-
  Contracts of RunSteps.
  Conditions: at most 2^20 rules, words of at most 2^20 bytes.
-/
import Derived.Test.YtoijojdegohknaaApply
namespace Go.Proofs.Ytoijojdegohknaa
open Go.RowKit
set_option linter.unusedVariables false

def M.runFrom (k : Int) (rs : List M.Rule) : List UInt8 → List M.Step → List UInt8 × Bool
  | l, [] => (l, true)
  | l, x :: xs => if (M.ApplyStep k rs l x).2 = true then M.runFrom k rs (M.ApplyStep k rs l x).1 xs else ([], false)
def M.RunSteps (k : Int) (rs : List M.Rule) (l : List UInt8) (xs : List M.Step) : List UInt8 × Bool := if 1000 < xs.length then ([], false) else M.runFrom k rs l xs
theorem replace_len (l : List UInt8) (p n : Int) (b : List UInt8) : (M.ReplaceAt l p n b).1.length ≤ 1048576 := by
  by_cases h : p < 0 ∨ n < 0 ∨ p > l.length ∨ n > l.length - p ∨ l.length - n + b.length > 16
  · rw [replace_no l p n b h]; simp
  · rw [replace_yes l p n b h]
    simp only [List.length_append, List.length_take, List.length_drop]
    omega
theorem applied_len (k : Int) (rs : List M.Rule) (l : List UInt8) (x : M.Step) : (M.ApplyStep k rs l x).1.length ≤ 1048576 := by
  unfold M.ApplyStep
  split
  · unfold M.replaced
    split
    · exact replace_len _ _ _ _
    · simp
  · simp
theorem run_step {k : Int} {rs : List M.Rule} {l : List UInt8} {xs : List M.Step} {j : Nat} (h : j < xs.length) : M.runFrom k rs l (xs.drop j) = if (M.ApplyStep k rs l xs[j]).2 = true then M.runFrom k rs (M.ApplyStep k rs l xs[j]).1 (xs.drop (j + 1)) else ([], false) := by
  rw [List.drop_eq_getElem_cons h, M.runFrom]
set_option maxRecDepth 100000 in
set_option maxHeartbeats 4000000 in
theorem spec_RunSteps_c (k : Int) (A : Option Addr) (c : Nat) (rs : List M.Rule) (l : List UInt8) (B : Option Addr) (d : Nat) (xs : List M.Step) (w : World) (hA : Rd w 2 A rs.length (ruls rs)) (hB : Rd w 2 B xs.length (steps_ xs)) (hl : rs.length ≤ 1048576) (hs : ∀ r ∈ rs, r.left.length ≤ 1048576 ∧ r.right.length ≤ 1048576) (hll : l.length ≤ 1048576) (hxl : xs.length ≤ 1048576) :
    Calls Try.prog 45 #[.agg #[.int .i64 k, .slice A rs.length c], .string ⟨l.toArray⟩, .slice B xs.length d] w fun e w' => e = .returned (.tuple #[.string ⟨(M.RunSteps k rs l xs).1.toArray⟩, .bool (M.RunSteps k rs l xs).2]) ∧ Below w.heap.size w w' := by
  have HC := Lib.hid (fun W l x hA hll => spec_ApplyStep_c k A c rs l x W hA hl hs hll)
  have HA := Lib.hid hA
  have HB := Lib.hid hB
  clear hA hB hs
  unfold M.RunSteps
  by_cases hbig : 1000 < xs.length
  · rw [if_pos hbig]
    have hbig' : (1000 : Int) < (xs.length : Int) := by omega
    go_enter Try.func45, Try.ntmps45
    go_wp2_with fail
    go_ret2
    exact ⟨rfl, (Below.refl _ _).alloc (Nat.le_refl _) _⟩
  · rw [if_neg hbig]
    obtain ⟨⟨zw, zb⟩, hz⟩ : ∃ z, z = M.runFrom k rs l xs := ⟨_, rfl⟩
    rw [← hz]
    have HZ := Lib.hid hz
    simp only
    obtain ⟨n, hn⟩ : ∃ n, n = xs.length := ⟨_, rfl⟩
    have HN := Lib.hid hn
    have hnb : n ≤ 1000 := by omega
    have hnb' : ¬ ((1000 : Int) < (n : Int)) := by omega
    rw [← hn] at HB ⊢
    clear hz hn hbig hxl
    obtain ⟨l0, hl0⟩ : ∃ l0, l0 = l := ⟨_, rfl⟩
    have HLL := Lib.hid hll
    go_enter Try.func45, Try.ntmps45
    go_wp2_with fail
    go_loopw [1, 17] (fun v z wr => ∃ (j : Nat) (m : List UInt8), j ≤ n ∧ z = .int .i64 j ∧ v = .string ⟨m.toArray⟩ ∧ m.length ≤ 1048576 ∧ M.runFrom k rs m (xs.drop j) = (zw, zb) ∧ wr.cell? ⟨w.heap.size, 0, none⟩ = some (.int .i64 k) ∧ wr.cell? ⟨w.heap.size, 1, none⟩ = some (.slice A rs.length c) ∧ Below w.heap.size w wr) (fun _ z _ => n - (intOf z).toNat)
    case atStart => exact ⟨0, l, by omega, rfl, rfl, HLL.out, by rw [List.drop_zero, HZ.out], by simp [go_sem], by simp [go_sem], (Below.refl _ _).alloc (Nat.le_refl _) _⟩
    case round =>
      obtain ⟨j, m, hj, rfl, rfl, hml, hf, c0, c1, hb⟩ := hrel
      have HF := Lib.hid hf
      have HW := Lib.hid hb
      by_cases hlt : j < n
      case neg =>
        have HE := Lib.hid (show m = zw ∧ true = zb by have h := HF.out; rw [List.drop_of_length_le (by have := HN.out; omega)] at h; simpa [M.runFrom] using h)
        clear hf hb c0 c1
        go_wp2_with fail
        go_ret2
        exact ⟨by rw [HE.out.1, ← HE.out.2]; rfl, HW.out⟩
      case pos =>
      obtain ⟨b, o, rfl, hz, hc1, hc2⟩ := (HB.out.below hb).stepAt (k := j) hlt
      have HF2 := Lib.hid ((run_step (k := k) (rs := rs) (l := m) hz).symm.trans hf)
      have HX := Lib.hid (applied_len k rs m xs[j])
      have HAP := Lib.hid (fun W h => HC.out W m xs[j] h hml)
      generalize xs[j] = y at *
      obtain ⟨yr, yp⟩ := y
      simp only at hc1 hc2 HAP
      generalize M.ApplyStep k rs m ⟨yr, yp⟩ = z at *
      obtain ⟨zm, zt⟩ := z
      simp only at HAP HF2 HX
      have k0 := allocKeep1 c0
      have k1 := allocKeep1 c1
      have HK0 := Lib.hid c0
      have HK1 := Lib.hid c1
      clear hf hb
      cases zt
      case false =>
        have HE := Lib.hid (show (([], false) : List UInt8 × Bool) = (zw, zb) by have h := HF2.out; simpa using h)
        go_wp2_with fail
        refine (HAP.out _ ((HA.out.below HW.out).below ((Below.refl _ _).alloc (Nat.le_refl _) _))).mono ?_
        rintro e w2 ⟨rfl, hb2⟩
        go_wp2_with fail
        go_ret2
        exact ⟨by have h := HE.out; injection h with h1 h2; rw [← h1, ← h2]; rfl, HW.out.trans ((below_alloc1 hb2).mono HW.out.size)⟩
      case true =>
        have HE := Lib.hid (show M.runFrom k rs zm (xs.drop (j + 1)) = (zw, zb) by have h := HF2.out; simpa using h)
        go_wp2_with fail
        refine (HAP.out _ ((HA.out.below HW.out).below ((Below.refl _ _).alloc (Nat.le_refl _) _))).mono ?_
        rintro e w2 ⟨rfl, hb2⟩
        have HB2 := Lib.hid (below_alloc1 hb2)
        clear hb2
        go_wp2_with fail
        go_roundw
        case rel => exact ⟨j + 1, zm, by omega, by go_num, rfl, HX.out, HE.out, cellKeep HB2.out HK0.out, cellKeep HB2.out HK1.out, HW.out.trans (HB2.out.mono HW.out.size)⟩
        case measure => simp [intOf] <;> omega
set_option maxRecDepth 100000 in
set_option maxHeartbeats 4000000 in
theorem impl_RunSteps_c (k : Int) (A : Option Addr) (c : Nat) (rs : List M.Rule) (l : List UInt8) (B : Option Addr) (d : Nat) (xs : List M.Step) (w : World) (hA : Rd w 2 A rs.length (ruls rs)) (hB : Rd w 2 B xs.length (steps_ xs)) (hl : rs.length ≤ 1048576) (hs : ∀ r ∈ rs, r.left.length ≤ 1048576 ∧ r.right.length ≤ 1048576) (hll : l.length ≤ 1048576) (hxl : xs.length ≤ 1048576) :
    Calls Try.prog 47 #[.agg #[.int .i64 k, .slice A rs.length c], .string ⟨l.toArray⟩, .slice B xs.length d] w fun e w' => e = .returned (.tuple #[.string ⟨(M.RunSteps k rs l xs).1.toArray⟩, .bool (M.RunSteps k rs l xs).2]) ∧ Below w.heap.size w w' := by
  have HC := Lib.hid (fun W l x hA hll => impl_ApplyStep_c k A c rs l x W hA hl hs hll)
  have HA := Lib.hid hA
  have HB := Lib.hid hB
  clear hA hB hs
  unfold M.RunSteps
  by_cases hbig : 1000 < xs.length
  · rw [if_pos hbig]
    have hbig' : (1000 : Int) < (xs.length : Int) := by omega
    go_enter Try.func47, Try.ntmps47
    go_wp2_with fail
    go_ret2
    exact ⟨rfl, (Below.refl _ _).alloc (Nat.le_refl _) _⟩
  · rw [if_neg hbig]
    obtain ⟨⟨zw, zb⟩, hz⟩ : ∃ z, z = M.runFrom k rs l xs := ⟨_, rfl⟩
    rw [← hz]
    have HZ := Lib.hid hz
    simp only
    obtain ⟨n, hn⟩ : ∃ n, n = xs.length := ⟨_, rfl⟩
    have HN := Lib.hid hn
    have hnb : n ≤ 1000 := by omega
    have hnb' : ¬ ((1000 : Int) < (n : Int)) := by omega
    rw [← hn] at HB ⊢
    clear hz hn hbig hxl
    obtain ⟨l0, hl0⟩ : ∃ l0, l0 = l := ⟨_, rfl⟩
    have HLL := Lib.hid hll
    go_enter Try.func47, Try.ntmps47
    go_wp2_with fail
    go_loopw [1, 17] (fun v z wr => ∃ (j : Nat) (m : List UInt8), j ≤ n ∧ z = .int .i64 j ∧ v = .string ⟨m.toArray⟩ ∧ m.length ≤ 1048576 ∧ M.runFrom k rs m (xs.drop j) = (zw, zb) ∧ wr.cell? ⟨w.heap.size, 0, none⟩ = some (.int .i64 k) ∧ wr.cell? ⟨w.heap.size, 1, none⟩ = some (.slice A rs.length c) ∧ Below w.heap.size w wr) (fun _ z _ => n - (intOf z).toNat)
    case atStart => exact ⟨0, l, by omega, rfl, rfl, HLL.out, by rw [List.drop_zero, HZ.out], by simp [go_sem], by simp [go_sem], (Below.refl _ _).alloc (Nat.le_refl _) _⟩
    case round =>
      obtain ⟨j, m, hj, rfl, rfl, hml, hf, c0, c1, hb⟩ := hrel
      have HF := Lib.hid hf
      have HW := Lib.hid hb
      by_cases hlt : j < n
      case neg =>
        have HE := Lib.hid (show m = zw ∧ true = zb by have h := HF.out; rw [List.drop_of_length_le (by have := HN.out; omega)] at h; simpa [M.runFrom] using h)
        clear hf hb c0 c1
        go_wp2_with fail
        go_ret2
        exact ⟨by rw [HE.out.1, ← HE.out.2]; rfl, HW.out⟩
      case pos =>
      obtain ⟨b, o, rfl, hz, hc1, hc2⟩ := (HB.out.below hb).stepAt (k := j) hlt
      have HF2 := Lib.hid ((run_step (k := k) (rs := rs) (l := m) hz).symm.trans hf)
      have HX := Lib.hid (applied_len k rs m xs[j])
      have HAP := Lib.hid (fun W h => HC.out W m xs[j] h hml)
      generalize xs[j] = y at *
      obtain ⟨yr, yp⟩ := y
      simp only at hc1 hc2 HAP
      generalize M.ApplyStep k rs m ⟨yr, yp⟩ = z at *
      obtain ⟨zm, zt⟩ := z
      simp only at HAP HF2 HX
      have k0 := allocKeep1 c0
      have k1 := allocKeep1 c1
      have HK0 := Lib.hid c0
      have HK1 := Lib.hid c1
      clear hf hb
      cases zt
      case false =>
        have HE := Lib.hid (show (([], false) : List UInt8 × Bool) = (zw, zb) by have h := HF2.out; simpa using h)
        go_wp2_with fail
        refine (HAP.out _ ((HA.out.below HW.out).below ((Below.refl _ _).alloc (Nat.le_refl _) _))).mono ?_
        rintro e w2 ⟨rfl, hb2⟩
        go_wp2_with fail
        go_ret2
        exact ⟨by have h := HE.out; injection h with h1 h2; rw [← h1, ← h2]; rfl, HW.out.trans ((below_alloc1 hb2).mono HW.out.size)⟩
      case true =>
        have HE := Lib.hid (show M.runFrom k rs zm (xs.drop (j + 1)) = (zw, zb) by have h := HF2.out; simpa using h)
        go_wp2_with fail
        refine (HAP.out _ ((HA.out.below HW.out).below ((Below.refl _ _).alloc (Nat.le_refl _) _))).mono ?_
        rintro e w2 ⟨rfl, hb2⟩
        have HB2 := Lib.hid (below_alloc1 hb2)
        clear hb2
        go_wp2_with fail
        go_roundw
        case rel => exact ⟨j + 1, zm, by omega, by go_num, rfl, HX.out, HE.out, cellKeep HB2.out HK0.out, cellKeep HB2.out HK1.out, HW.out.trans (HB2.out.mono HW.out.size)⟩
        case measure => simp [intOf] <;> omega

end Go.Proofs.Ytoijojdegohknaa
