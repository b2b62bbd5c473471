/-
  The contracts of PairsOf.
  Conditions: a system that is ok.
-/
import Derived.Test.YtoijojdegohknaaPairsI
import Derived.Test.YtoijojdegohknaaOkC2
import Derived.Test.YtoijojdegohknaaMarkL
import Derived.Deep.RegionHeld3
namespace Go.Proofs.Ytoijojdegohknaa
open Go.RowKit
set_option linter.unusedVariables false
set_option linter.unusedSimpArgs false

set_option maxRecDepth 100000 in
set_option maxHeartbeats 4000000 in
theorem spec_PairsOf_c (k : Int) (A : Option Addr) (c : Nat) (rs : List M.Rule) (w : World) (hA : Rd w 2 A rs.length (ruls rs)) (hl : rs.length ≤ 1048576) (hs : ∀ r ∈ rs, r.left.length ≤ 1048576 ∧ r.right.length ≤ 1048576) :
    Calls Try.prog 57 #[.agg #[.int .i64 k, .slice A rs.length c]] w (RetOwn (fun A c => .slice A (M.PairsOf k rs).length c) 78 5 (M.PairsOf k rs).length (pairs_ (M.PairsOf k rs)) w) := by
  have HA := Lib.hid hA
  have h1 := Lib.hid (fun W hA => spec_SystemOk_c k A c rs W hA hl hs)
  have HP := Lib.hid (fun (o : Obj) => (Below.refl w.heap.size w).alloc (Nat.le_refl _) o)
  unfold M.PairsOf
  by_cases hok : M.SystemOk k rs = true
  case neg =>
    rw [if_neg hok]
    have hok' : M.SystemOk k rs = false := by simpa using hok
    rw [hok'] at h1
    clear hA hok hok' hs
    go_enter Try.func57, Try.ntmps57
    go_wp2_with fail
    refine (h1.out _ (HA.out.below (HP.out _))).mono ?_
    rintro e w1 ⟨rfl, hb⟩
    go_wp2_with fail
    go_ret
    exact ⟨none, 0, rfl, World.ownsRow_nil _ _ _ _, below_alloc1 hb⟩
  case pos =>
  rw [if_pos hok]
  have h12 := rulesLe hok
  have HIN := Lib.hid (fun i j W hA hi hj => inside_c k A c rs i j W hA hl hi hj (fun i => sides8 hok))
  have HAC := Lib.hid (fun i j W hA hi hj => across_c k A c rs i j W hA hl hi hj (fun i => sides8 hok))
  have HLB := Lib.hid (fun (i j : Nat) (hi : i ≤ rs.length) (hj : j ≤ rs.length) => upTo_len (fun i => sides8 hok) h12 hi hj)
  have HIL := Lib.hid (fun i j => inside_len (rs := rs) (fun i => sides8 hok) i j)
  have HCL := Lib.hid (fun i j => across_len (rs := rs) (fun i => sides8 hok) i j)
  rw [hok] at h1
  clear hA hok hs hl
  obtain ⟨zs, hzs⟩ : ∃ zs, zs = M.pairTo rs rs.length := ⟨_, rfl⟩
  have HZ := Lib.hid hzs
  rw [← hzs]
  clear hzs
  obtain ⟨m, hm⟩ : ∃ m, m = rs.length := ⟨_, rfl⟩
  have HM := Lib.hid hm
  rw [← hm] at h12 HA HLB HIN HAC h1 ⊢
  clear hm
  go_enter Try.func57, Try.ntmps57
  go_wp2_with fail
  refine (h1.out _ (HA.out.below (HP.out _))).mono ?_
  rintro e w1 ⟨rfl, hb⟩
  have D0 := Lib.hid (show w1.cell? ⟨w.heap.size, 0, none⟩ = some (.int .i64 k) from cellKeep hb (by simp [go_sem]))
  have D1 := Lib.hid (show w1.cell? ⟨w.heap.size, 1, none⟩ = some (.slice A m c) from cellKeep hb (by simp [go_sem]))
  have HB0 := Lib.hid (below_alloc1 hb)
  have HA1 := Lib.hid (HA.out.below HB0.out)
  clear hb
  have d1 := fun o => allocKeep1 D1.out o
  go_wp2_with fail
  clear d1
  go_loopw [3, 13] (fun s z wr => ∃ (i : Nat) (A' : Option Addr) (m' c' : Nat), i ≤ m ∧ z = .int .i64 i ∧ s = .slice A' m' c' ∧ m' = (M.pairTo rs i ++ M.pairRow rs i 0).length ∧ wr.ownsRow w1.heap.size 78 5 (.slice A' m' c') m' (pairs_ (M.pairTo rs i ++ M.pairRow rs i 0)) ∧ Below w1.heap.size w1 wr) (fun _ z _ => m - (intOf z).toNat)
  case atStart => exact ⟨0, _, 0, 0, by omega, rfl, rfl, rfl, by
    have h := World.ownsRow_lit (e := 78) (size := 5) w1 #[] 0 (Nat.le_refl _) (by simp [maxLen]) (by simp)
    simpa [M.pairTo, M.pairRow, pairs_] using h, (Below.refl _ _).alloc (Nat.le_refl _) _⟩
  case round =>
    obtain ⟨i, A', m', c', hi, rfl, rfl, hm', hown, hb⟩ := hrel
    have HN := Lib.hid hm'
    have HO := Lib.hid hown
    have HB := Lib.hid hb
    clear hm' hown hb
    by_cases hlt : i < m
    case neg =>
      obtain rfl : i = m := by omega
      have HE := Lib.hid (show M.pairTo rs i ++ M.pairRow rs i 0 = zs by rw [HZ.out, HM.out]; simp [M.pairRow])
      go_wp2
      go_ret
      exact ⟨A', c', by rw [← HE.out, ← HN.out]; rfl, by rw [← HE.out, ← HN.out]; exact own_base HO.out HB0.out.size, HB0.out.trans (HB.out.mono HB0.out.size)⟩
    case pos =>
    obtain ⟨wo, hwo⟩ : ∃ wo : World, wo = wr := ⟨_, rfl⟩
    rw [← hwo] at HO HB ⊢
    clear hwo
    have d1 := cellKeep HB.out D1.out
    go_wp2_with fail
    clear d1
    go_loopw [3, 19] (fun s z wr => ∃ (j : Nat) (A' : Option Addr) (m' c' : Nat), j ≤ m ∧ z = .int .i64 j ∧ s = .slice A' m' c' ∧ m' = (M.pairTo rs i ++ M.pairRow rs i j).length ∧ wr.ownsRow w1.heap.size 78 5 (.slice A' m' c') m' (pairs_ (M.pairTo rs i ++ M.pairRow rs i j)) ∧ Below w1.heap.size w1 wr) (fun _ z _ => m - (intOf z).toNat)
    case atStart => exact ⟨0, A', m', c', by omega, rfl, rfl, HN.out, HO.out, HB.out⟩
    case round =>
      clear HO HB HN
      obtain ⟨j, A2, m2, c2, hj, rfl, rfl, hm2, hown, hb⟩ := hrel
      have HN := Lib.hid hm2
      have HO := Lib.hid hown
      have HB := Lib.hid hb
      clear hm2 hown hb
      by_cases hjm : j < m
      case neg =>
        obtain rfl : j = m := by omega
        have HE := Lib.hid (show M.pairTo rs (i + 1) ++ M.pairRow rs (i + 1) 0 = M.pairTo rs i ++ M.pairRow rs i j by rw [HM.out]; simp [M.pairRow, M.pairTo])
        go_wp2
        go_roundw
        case rel => exact ⟨i + 1, A2, m2, c2, by omega, by go_num, rfl, by rw [HE.out]; exact HN.out, by rw [HE.out]; exact HO.out, HB.out⟩
        case measure => simp [intOf] <;> omega
      case pos =>
      have hnb : m2 ≤ 13000 := by rw [HN.out]; exact HLB.out _ _ hi (Nat.le_of_lt hjm)
      have HE := Lib.hid (show M.pairTo rs i ++ M.pairRow rs i (j + 1) = M.pairTo rs i ++ M.pairRow rs i j ++ M.inside rs i j ++ M.across rs i j by rw [M.pairRow]; simp only [List.append_assoc])
      have h4 := Lib.hid (HIN.out i j wr (HA1.out.below HB.out) hlt hjm)
      have h5 := Lib.hid (fun W hA => HAC.out i j W hA hlt hjm)
      have hil := HIL.out i j
      have hcl := HCL.out i j
      generalize M.inside rs i j = xs at *
      generalize M.across rs i j = ys at *
      generalize M.pairTo rs i ++ M.pairRow rs i j = P0 at *
      have e0 := cellKeep HB.out D0.out
      have e1 := cellKeep HB.out D1.out
      go_wp2_with fail
      refine h4.out.mono ?_
      rintro e w3 ⟨ad, c3, rfl, hown, hb⟩
      have HO3 := Lib.hid (own_below HO.out hb)
      have HB3 := Lib.hid (HB.out.trans (hb.mono HB.out.size))
      have HI := Lib.hid (Rd.of_own hown)
      clear hb hown e0 e1 h4
      go_wp2_with (at_builtin; refine push_many rfl _ _ rfl slPair rfl HO3.out rfl HI.out (pairs_one _) HB3.out rfl (by omega) ?_; intro A4 c4 w4 hown4 hb4; have e0 := cellKeep hb4 D0.out; have e1 := cellKeep hb4 D1.out)
      have HO4 := Lib.hid hown4
      have HB4 := Lib.hid hb4
      clear hown4 hb4 HI HO3 HB3
      refine (h5.out _ (HA1.out.below HB4.out)).mono ?_
      rintro e w5 ⟨ad5, c5, rfl, hown, hb⟩
      have HO5 := Lib.hid (own_below HO4.out hb)
      have HB5 := Lib.hid (HB4.out.trans (hb.mono HB4.out.size))
      have HI := Lib.hid (Rd.of_own hown)
      clear hb hown e0 e1 h5
      go_wp2_with (at_builtin; refine push_many rfl _ _ rfl slPair rfl HO5.out rfl HI.out (pairs_one _) HB5.out rfl (by omega) ?_; intro A6 c6 w6 hown6 hb6)
      go_roundw
      case rel => exact ⟨j + 1, A6, m2 + xs.length + ys.length, c6, by omega, by go_num, rfl, by rw [HE.out, List.length_append, List.length_append, ← HN.out], by rw [HE.out, pairs_add, pairs_add]; exact hown6, hb6⟩
      case measure => simp [intOf] <;> omega
set_option maxRecDepth 100000 in
set_option maxHeartbeats 2000000 in
theorem impl_PairsOf_c (k : Int) (A : Option Addr) (c : Nat) (rs : List M.Rule) (w : World) (hA : Rd w 2 A rs.length (ruls rs)) (hl : rs.length ≤ 1048576) (hs : ∀ r ∈ rs, r.left.length ≤ 1048576 ∧ r.right.length ≤ 1048576) :
    Calls Try.prog 58 #[.agg #[.int .i64 k, .slice A rs.length c]] w (RetOwn (fun A c => .slice A (M.PairsOf k rs).length c) 78 5 (M.PairsOf k rs).length (pairs_ (M.PairsOf k rs)) w) := by
  have HA := Lib.hid hA
  have h1 := Lib.hid (fun W hA => impl_SystemOk_c k A c rs W hA hl hs)
  have HP := Lib.hid (fun (o : Obj) => (Below.refl w.heap.size w).alloc (Nat.le_refl _) o)
  unfold M.PairsOf
  by_cases hok : M.SystemOk k rs = true
  case neg =>
    rw [if_neg hok]
    have hok' : M.SystemOk k rs = false := by simpa using hok
    rw [hok'] at h1
    clear hA hok hok' hs
    go_enter Try.func58, Try.ntmps58
    go_wp2_with fail
    refine (h1.out _ (HA.out.below (HP.out _))).mono ?_
    rintro e w1 ⟨rfl, hb⟩
    go_wp2_with fail
    go_ret
    exact ⟨none, 0, rfl, World.ownsRow_nil _ _ _ _, below_alloc1 hb⟩
  case pos =>
  rw [if_pos hok]
  have h2 := Lib.hid (fun W hA => pairs_c k A c rs W hA (rulesLe hok) (fun i => sides8 hok))
  rw [hok] at h1
  clear hA hok hs hl
  generalize M.pairTo rs rs.length = zs at *
  go_enter Try.func58, Try.ntmps58
  go_wp2_with fail
  refine (h1.out _ (HA.out.below (HP.out _))).mono ?_
  rintro e w1 ⟨rfl, hb⟩
  have d0 : w1.cell? ⟨w.heap.size, 0, none⟩ = some (.int .i64 k) := cellKeep hb (by simp [go_sem])
  have d1 : w1.cell? ⟨w.heap.size, 1, none⟩ = some (.slice A rs.length c) := cellKeep hb (by simp [go_sem])
  have HB := Lib.hid (below_alloc1 hb)
  clear hb
  go_wp2_with fail
  refine (h2.out _ (HA.out.below HB.out)).mono ?_
  rintro e w2 ⟨A2, c2, rfl, ho, hb2⟩
  have HO := Lib.hid (own_base ho HB.out.size)
  have HB2 := Lib.hid (HB.out.trans (hb2.mono HB.out.size))
  clear ho hb2
  go_wp2_with fail
  go_ret
  exact ⟨_, _, rfl, HO.out, HB2.out⟩

end Go.Proofs.Ytoijojdegohknaa
