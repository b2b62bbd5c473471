/-
  Contracts of IsInterreduced.
  Conditions: at most 2^20 rules.
-/
import Derived.Test.YtoijojdegohknaaOkC2
import Derived.Test.YtoijojdegohknaaPlaces
import Derived.Test.YtoijojdegohknaaShelf
import Derived.Lib.IndexMore
namespace Go.Proofs.Ytoijojdegohknaa
open Go.RowKit
set_option linter.unusedVariables false

/-- Whether a part lies in a word. -/
def M.occ (l p : List UInt8) : Bool := decide (0 < (M.PlacesOf l p).length)
def M.bad (rs : List M.Rule) (i j : Nat) : Bool := match rs[i]?, rs[j]? with
  | some r, some x => (decide (i ≠ j) && M.occ r.left x.left) || M.occ r.right x.left
  | _, _ => false
def M.interOk (rs : List M.Rule) : Bool := (List.range rs.length).all fun i => (List.range rs.length).all fun j => !M.bad rs i j
def M.IsInterreduced (k : Int) (rs : List M.Rule) : Bool := M.SystemOk k rs && M.interOk rs
theorem inter_yes {rs : List M.Rule} (h : ∀ i j, i < rs.length → j < rs.length → M.bad rs i j = false) : M.interOk rs = true := by
  unfold M.interOk
  rw [List.all_eq_true]
  intro i hi
  rw [List.all_eq_true]
  intro j hj
  rw [h i j (List.mem_range.1 hi) (List.mem_range.1 hj)]
  rfl
theorem inter_no {rs : List M.Rule} {i j : Nat} (hi : i < rs.length) (hj : j < rs.length) (h : M.bad rs i j = true) : M.interOk rs = false := by
  cases hq : M.interOk rs
  · rfl
  · unfold M.interOk at hq
    rw [List.all_eq_true] at hq
    have := hq i (List.mem_range.2 hi)
    rw [List.all_eq_true] at this
    have := this j (List.mem_range.2 hj)
    rw [h] at this
    cases this
theorem bad_at {rs : List M.Rule} {i j : Nat} (hi : i < rs.length) (hj : j < rs.length) : M.bad rs i j = ((decide (i ≠ j) && M.occ rs[i].left rs[j].left) || M.occ rs[i].right rs[j].left) := by simp [M.bad, hi, hj]
theorem left_pos {k : Int} {rs : List M.Rule} (h : M.SystemOk k rs = true) {r : M.Rule} (hr : r ∈ rs) : r.left ≠ [] := by
  unfold M.SystemOk at h
  have h1 := (Bool.and_eq_true_iff.1 h).1
  unfold M.RulesOk at h1
  intro e
  have h2 : rs.any (M.ruleBad k) = true := List.any_eq_true.2 ⟨r, hr, by unfold M.ruleBad; rw [e]; simp⟩
  rw [h2] at h1
  simp at h1
theorem rulesLe {k : Int} {rs : List M.Rule} (h : M.SystemOk k rs = true) : rs.length ≤ 12 := by
  unfold M.SystemOk at h
  have h1 := (Bool.and_eq_true_iff.1 h).1
  unfold M.RulesOk at h1
  simp only [Bool.and_eq_true, decide_eq_true_eq] at h1
  omega
theorem occ_index {l p : List UInt8} (hp : p ≠ []) : Lib.contains l p = M.occ l p := by
  have hP : M.PlacesOf l p = M.sel (fun i => M.pre p (l.drop i)) l.length := if_neg hp
  have hocc : ∀ i, Lib.occAt l p i = M.pre p (l.drop i) := fun i => by
    unfold Lib.occAt M.pre
    rw [Bool.eq_iff_iff, List.isPrefixOf_iff_prefix, decide_eq_true_eq, List.prefix_iff_eq_take]
    exact ⟨fun h => h.symm, fun h => h.symm⟩
  unfold Lib.contains M.occ
  rw [hP]
  rcases Lib.index_spec l p with ⟨h1, h2⟩ | ⟨i, h1, h2, h3, _⟩
  · rw [h1, M.sel_more (p := fun i => M.pre p (l.drop i)) (k := 0) l.length (Nat.zero_le _) (fun j _ hj => by rw [← hocc]; exact h2 j (by omega))]
    simp [M.sel]
  · have hlt : i < l.length := by
      have h4 := Lib.index_room l p (by rw [h1]; omega)
      have h5 : 0 < p.length := by cases p with | nil => exact absurd rfl hp | cons a r => simp
      omega
    have hm : (i : Int) ∈ M.sel (fun i => M.pre p (l.drop i)) l.length := by
      unfold M.sel
      rw [List.mem_map]
      exact ⟨i, List.mem_filter.2 ⟨List.mem_range.2 hlt, by rw [← hocc]; exact h3⟩, rfl⟩
    have hpos := List.length_pos_of_mem hm
    rw [h1]
    simp only [decide_eq_true hpos]
    exact decide_eq_true (by omega)
theorem contains_c (l p : List UInt8) (m : Int) (w : World) (hl : l.length ≤ 1048576) (hp : p ≠ []) (hm : w.cell? ⟨0, 0, none⟩ = some (.int .i64 m)) : Calls Try.prog 92 #[.string ⟨l.toArray⟩, .string ⟨p.toArray⟩] w fun e w' => e = .returned (.bool (M.occ l p)) ∧ w = w' := by
  have h := Try.strings_Contains ⟨l.toArray⟩ ⟨p.toArray⟩ m w (by simp [ByteArray.size]; omega) hm
  refine h.mono fun e w' ⟨he, hw⟩ => ⟨?_, hw.symm⟩
  rw [he, ← occ_index hp]
set_option maxRecDepth 100000 in
set_option maxHeartbeats 4000000 in
theorem spec_IsInterreduced_c (k : Int) (A : Option Addr) (c : Nat) (rs : List M.Rule) (w : World) (hA : Rd w 2 A rs.length (ruls rs)) (hl : rs.length ≤ 1048576) (hs : ∀ r ∈ rs, r.left.length ≤ 1048576 ∧ r.right.length ≤ 1048576) :
    Calls Try.prog 55 #[.agg #[.int .i64 k, .slice A rs.length c]] w fun e w' => e = .returned (.bool (M.IsInterreduced k rs)) ∧ Below w.heap.size w w' := by
  unfold M.IsInterreduced
  have h1 := Lib.hid (fun W hA => spec_SystemOk_c k A c rs W hA hl hs)
  have HA := Lib.hid hA
  have HS := Lib.hid hs
  obtain ⟨x, hx⟩ : ∃ x, x = M.SystemOk k rs := ⟨_, rfl⟩
  rw [← hx] at h1 ⊢
  cases x
  case false =>
    clear hx hA hs
    go_enter Try.func55, Try.ntmps55
    go_wp2_with fail
    refine (h1.out _ (HA.out.below ((Below.refl _ _).alloc (Nat.le_refl _) _))).mono ?_
    rintro e w1 ⟨rfl, hb⟩
    go_wp2_with fail
    go_ret
    exact ⟨rfl, below_alloc1 hb⟩
  case true =>
  have HPOS := Lib.hid (fun r hr => left_pos hx.symm (r := r) hr)
  have h12 := rulesLe hx.symm
  obtain ⟨q, hq⟩ : ∃ q, q = M.interOk rs := ⟨_, rfl⟩
  rw [← hq, Bool.true_and]
  have HYES := Lib.hid (fun h => hq.trans (inter_yes (rs := rs) h))
  have HNO := Lib.hid (fun i j hi hj h => hq.trans (inter_no (rs := rs) (i := i) (j := j) hi hj h))
  obtain ⟨n, hn⟩ : ∃ n, n = rs.length := ⟨_, rfl⟩
  have HN := Lib.hid hn
  rw [← hn] at HA h1 h12 HNO HYES ⊢
  clear hx hA hs hl hq hn
  go_enter Try.func55, Try.ntmps55
  go_wp2_with fail
  refine (h1.out _ (HA.out.below ((Below.refl _ _).alloc (Nat.le_refl _) _))).mono ?_
  rintro e w1 ⟨rfl, hb⟩
  have D1 := Lib.hid (show w1.cell? ⟨w.heap.size, 1, none⟩ = some (.slice A n c) from cellKeep hb (by simp [go_sem]))
  have HB0 := Lib.hid (below_alloc1 hb)
  have HA1 := Lib.hid (HA.out.below HB0.out)
  have d1 := D1.out
  clear hb
  go_wp2_with fail
  clear d1
  go_loopw [13] (fun z wr => ∃ i : Nat, i ≤ n ∧ z = .int .i64 i ∧ (∀ i' j, i' < i → j < n → M.bad rs i' j = false) ∧ Below w1.heap.size w1 wr) (fun z _ => n - (intOf z).toNat)
  case atStart => exact ⟨0, by omega, rfl, fun i' j h => absurd h (by omega), Below.refl _ _⟩
  case round =>
    obtain ⟨i, hi, rfl, hrow, hb⟩ := hrel
    have e1 := cellKeep hb D1.out
    have HROW := Lib.hid hrow
    have HB := Lib.hid hb
    by_cases hlt : i < n
    case neg =>
      have HE := Lib.hid (HYES.out fun a b ha hb' => HROW.out a b (by omega) hb')
      clear hrow hb
      go_wp2
      go_ret
      exact ⟨ret_bool HE.out.symm, HB0.out.trans (HB.out.mono HB0.out.size)⟩
    case pos =>
    obtain ⟨b, o, hA0, hz, hr1, hr2⟩ := (HA1.out.below hb).ruleAt (k := i) hlt
    have e2 := allocKeep1 e1
    have HI := Lib.hid (HS.out rs[i] (List.getElem_mem hz))
    have HIP := Lib.hid (HPOS.out rs[i] (List.getElem_mem hz))
    have HBAD := Lib.hid (fun j hj => bad_at (rs := rs) (i := i) (j := j) hz hj)
    generalize rs[i] = ri at *
    obtain ⟨il, ir⟩ := ri
    simp only at hr1 hr2 HI HIP HBAD
    subst hA0
    have HAL := Lib.hid (show ∀ x, Below wr.heap.size wr (wr.alloc x) from fun x => (Below.refl _ _).alloc (Nat.le_refl _) x)
    clear hrow hb
    obtain ⟨wo, hwo⟩ : ∃ wo : World, wo = wr := ⟨_, rfl⟩
    rw [← hwo] at HB e1 e2 hr1 hr2 HAL ⊢
    clear hwo
    go_wp2_with fail
    obtain ⟨v1, hv1⟩ : ∃ v1 : World, v1 = wo.alloc (.cells #[.string ⟨il.toArray⟩, .string ⟨ir.toArray⟩] 90) := ⟨_, rfl⟩
    have G0 := Lib.hid (show v1.cell? ⟨wo.heap.size, 0, none⟩ = some (.string ⟨il.toArray⟩) by rw [hv1]; simp [go_sem])
    have G1 := Lib.hid (show v1.cell? ⟨wo.heap.size, 1, none⟩ = some (.string ⟨ir.toArray⟩) by rw [hv1]; simp [go_sem])
    have HB1 := Lib.hid (show Below w1.heap.size w1 v1 by rw [hv1]; exact HB.out.alloc HB.out.size _)
    rw [← hv1]
    clear hv1 e1 e2 hr1 hr2
    go_loopw [21] (fun z wr => ∃ j : Nat, j ≤ n ∧ z = .int .i64 j ∧ (∀ j', j' < j → M.bad rs i j' = false) ∧ Below v1.heap.size v1 wr) (fun z _ => n - (intOf z).toNat)
    case atStart => exact ⟨0, by omega, rfl, fun j' h => absurd h (by omega), by first | exact Below.refl _ _ | exact (Below.refl _ _).drew⟩
    case round =>
      obtain ⟨j, hj, rfl, hcol, hb⟩ := hrel
      have e1 := cellKeep (HB1.out.trans (hb.mono HB1.out.size)) D1.out
      have g0 := allocKeep1 (cellKeep hb G0.out)
      have g1 := allocKeep1 (cellKeep hb G1.out)
      have HB2 := Lib.hid hb
      have HCOL := Lib.hid hcol
      by_cases hjn : j < n
      case neg =>
        have HR := Lib.hid (show ∀ i' j', i' < i + 1 → j' < n → M.bad rs i' j' = false from fun i' j' h1 h2 => by
          by_cases he : i' = i
          · subst he; exact HCOL.out j' (by omega)
          · exact HROW.out i' j' (by omega) h2)
        clear hcol hb g0 g1
        go_wp2
        go_roundw
        case rel => exact ⟨i + 1, by omega, by go_num, HR.out, HB1.out.trans (HB2.out.mono HB1.out.size)⟩
        case measure => simp [intOf] <;> omega
      case pos =>
      obtain ⟨b2, o2, hA2, hz2, hc1, hc2⟩ := (HA1.out.below (HB1.out.trans (hb.mono HB1.out.size))).ruleAt (k := j) hjn
      have HJ := Lib.hid (HS.out rs[j] (List.getElem_mem hz2))
      have HJP := Lib.hid (HPOS.out rs[j] (List.getElem_mem hz2))
      have HBJ := Lib.hid (HBAD.out j hz2)
      injection hA2 with hA2
      injection hA2 with hA2 hA3
      subst hA2
      subst hA3
      have HBD := Lib.hid (fun (h : M.bad rs i j = true) => HNO.out i j hlt hjn h)
      have HOK := Lib.hid (fun (h : M.bad rs i j = false) => show ∀ j', j' < j + 1 → M.bad rs i j' = false from fun j' h1 => by
        by_cases he : j' = j
        · subst he; exact h
        · exact HCOL.out j' (by omega))
      have HK := Lib.hid (fun x y => (show Below w.heap.size w x from y))
      generalize rs[j] = rj at *
      obtain ⟨jl, jr⟩ := rj
      simp only at hc1 hc2 HJ HJP HBJ
      clear hcol hb

      have HC1 := Lib.hid (fun W => spec_PlacesOf_c il jl W HI.out.1 HJ.out.1)
      have HC2 := Lib.hid (fun W => spec_PlacesOf_c ir jl W HI.out.2 HJ.out.1)
      unfold M.occ at HBJ
      generalize M.PlacesOf il jl = ps1 at *
      generalize M.PlacesOf ir jl = ps2 at *
      obtain ⟨a1, ha1⟩ : ∃ a1, a1 = ps1.length := ⟨_, rfl⟩
      obtain ⟨a2, ha2⟩ : ∃ a2, a2 = ps2.length := ⟨_, rfl⟩
      rw [← ha1] at HC1 HBJ
      rw [← ha2] at HC2 HBJ
      clear ha1 ha2
      by_cases hij : i = j
      case pos =>
        have hij' : ((i : Int) != (j : Int)) = false := by rw [bne_eq_false_iff_eq]; omega
        by_cases ha : 0 < a2
        case pos =>
          have ha' : (0 : Int) < (a2 : Int) := by omega
          have HV := Lib.hid (HBD.out (by rw [HBJ.out]; simp [hij, ha]))
          clear hij ha
          go_wp2_with fail
          refine (HC2.out _).mono ?_
          rintro e w3 ⟨Aw3, cw3, rfl, hown, hbw3⟩
          have Hw3 := Lib.hid hbw3
          clear hown hbw3
          go_wp2_with fail
          go_ret
          exact ⟨ret_bool HV.out.symm, HB0.out.trans ((HB1.out.trans ((HB2.out.trans ((below_then ((Below.refl wr.heap.size wr).alloc (Nat.le_refl _) _) Hw3.out).mono HB2.out.size)).mono HB1.out.size)).mono HB0.out.size)⟩
        case neg =>
          have ha' : ¬ (0 : Int) < (a2 : Int) := by omega
          have HV := Lib.hid (HOK.out (by rw [HBJ.out]; simp [hij, ha]))
          clear hij ha
          go_wp2_with fail
          refine (HC2.out _).mono ?_
          rintro e w3 ⟨Aw3, cw3, rfl, hown, hbw3⟩
          have Hw3 := Lib.hid hbw3
          clear hown hbw3
          go_wp2_with fail
          go_roundw
          case rel => exact ⟨j + 1, by omega, by go_num, HV.out, HB2.out.trans ((below_then ((Below.refl wr.heap.size wr).alloc (Nat.le_refl _) _) Hw3.out).mono HB2.out.size)⟩
          case measure => simp [intOf] <;> omega
      case neg =>
        have hij' : ((i : Int) != (j : Int)) = true := by rw [bne_iff_ne]; omega
        by_cases hc : 0 < a1
        case pos =>
          have hc' : (0 : Int) < (a1 : Int) := by omega
          have HV := Lib.hid (HBD.out (by rw [HBJ.out]; simp [hij, hc]))
          clear hij hc
          go_wp2_with fail
          refine (HC1.out _).mono ?_
          rintro e w2 ⟨Aw2, cw2, rfl, hown, hbw2⟩
          have Hw2 := Lib.hid hbw2
          clear hown hbw2
          go_wp2_with fail
          go_ret
          exact ⟨ret_bool HV.out.symm, HB0.out.trans ((HB1.out.trans ((HB2.out.trans ((below_then ((Below.refl wr.heap.size wr).alloc (Nat.le_refl _) _) Hw2.out).mono HB2.out.size)).mono HB1.out.size)).mono HB0.out.size)⟩
        case neg =>
        have hc' : ¬ (0 : Int) < (a1 : Int) := by omega
        by_cases ha : 0 < a2
        case pos =>
          have ha' : (0 : Int) < (a2 : Int) := by omega
          have HV := Lib.hid (HBD.out (by rw [HBJ.out]; simp [ha]))
          clear hij ha hc
          go_wp2_with fail
          refine (HC1.out _).mono ?_
          rintro e w2 ⟨Aw2, cw2, rfl, hown, hbw2⟩
          have k1 := cellKeep hbw2 (g1 _)
          have k2 : w2.cell? ⟨wr.heap.size, 0, none⟩ = some (.string ⟨jl.toArray⟩) := cellKeep hbw2 (by simp [go_sem])
          have Hw2 := Lib.hid hbw2
          clear hown hbw2
          go_wp2_with fail
          refine (HC2.out _).mono ?_
          rintro e w3 ⟨Aw3, cw3, rfl, hown, hbw3⟩
          have Hw3 := Lib.hid hbw3
          clear hown hbw3
          go_wp2_with fail
          go_ret
          exact ⟨ret_bool HV.out.symm, HB0.out.trans ((HB1.out.trans ((HB2.out.trans ((below_then ((Below.refl wr.heap.size wr).alloc (Nat.le_refl _) _) (below_then Hw2.out Hw3.out)).mono HB2.out.size)).mono HB1.out.size)).mono HB0.out.size)⟩
        case neg =>
          have ha' : ¬ (0 : Int) < (a2 : Int) := by omega
          have HV := Lib.hid (HOK.out (by rw [HBJ.out]; simp [ha, hc]))
          clear hij ha hc
          go_wp2_with fail
          refine (HC1.out _).mono ?_
          rintro e w2 ⟨Aw2, cw2, rfl, hown, hbw2⟩
          have k1 := cellKeep hbw2 (g1 _)
          have k2 : w2.cell? ⟨wr.heap.size, 0, none⟩ = some (.string ⟨jl.toArray⟩) := cellKeep hbw2 (by simp [go_sem])
          have Hw2 := Lib.hid hbw2
          clear hown hbw2
          go_wp2_with fail
          refine (HC2.out _).mono ?_
          rintro e w3 ⟨Aw3, cw3, rfl, hown, hbw3⟩
          have Hw3 := Lib.hid hbw3
          clear hown hbw3
          go_wp2_with fail
          go_roundw
          case rel => exact ⟨j + 1, by omega, by go_num, HV.out, HB2.out.trans ((below_then ((Below.refl wr.heap.size wr).alloc (Nat.le_refl _) _) (below_then Hw2.out Hw3.out)).mono HB2.out.size)⟩
          case measure => simp [intOf] <;> omega
set_option maxRecDepth 100000 in
set_option maxHeartbeats 4000000 in
theorem impl_IsInterreduced_c (k : Int) (A : Option Addr) (c : Nat) (rs : List M.Rule) (w : World) (hA : Rd w 2 A rs.length (ruls rs)) (hl : rs.length ≤ 1048576) (hs : ∀ r ∈ rs, r.left.length ≤ 1048576 ∧ r.right.length ≤ 1048576) (m : Int) (hm : w.cell? ⟨0, 0, none⟩ = some (.int .i64 m)) :
    Calls Try.prog 56 #[.agg #[.int .i64 k, .slice A rs.length c]] w fun e w' => e = .returned (.bool (M.IsInterreduced k rs)) ∧ Below w.heap.size w w' := by
  unfold M.IsInterreduced
  have h1 := Lib.hid (fun W hA => impl_SystemOk_c k A c rs W hA hl hs)
  have HA := Lib.hid hA
  have HS := Lib.hid hs
  have HM := Lib.hid hm
  obtain ⟨x, hx⟩ : ∃ x, x = M.SystemOk k rs := ⟨_, rfl⟩
  rw [← hx] at h1 ⊢
  cases x
  case false =>
    clear hx hA hs hm
    go_enter Try.func56, Try.ntmps56
    go_wp2_with fail
    refine (h1.out _ (HA.out.below ((Below.refl _ _).alloc (Nat.le_refl _) _))).mono ?_
    rintro e w1 ⟨rfl, hb⟩
    go_wp2_with fail
    go_ret
    exact ⟨rfl, below_alloc1 hb⟩
  case true =>
  have HPOS := Lib.hid (fun r hr => left_pos hx.symm (r := r) hr)
  have h12 := rulesLe hx.symm
  obtain ⟨q, hq⟩ : ∃ q, q = M.interOk rs := ⟨_, rfl⟩
  rw [← hq, Bool.true_and]
  have HYES := Lib.hid (fun h => hq.trans (inter_yes (rs := rs) h))
  have HNO := Lib.hid (fun i j hi hj h => hq.trans (inter_no (rs := rs) (i := i) (j := j) hi hj h))
  obtain ⟨n, hn⟩ : ∃ n, n = rs.length := ⟨_, rfl⟩
  have HN := Lib.hid hn
  rw [← hn] at HA h1 h12 HNO HYES ⊢
  clear hx hA hs hl hq hn hm
  go_enter Try.func56, Try.ntmps56
  go_wp2_with fail
  refine (h1.out _ (HA.out.below ((Below.refl _ _).alloc (Nat.le_refl _) _))).mono ?_
  rintro e w1 ⟨rfl, hb⟩
  have D1 := Lib.hid (show w1.cell? ⟨w.heap.size, 1, none⟩ = some (.slice A n c) from cellKeep hb (by simp [go_sem]))
  have HB0 := Lib.hid (below_alloc1 hb)
  have HA1 := Lib.hid (HA.out.below HB0.out)
  have d1 := D1.out
  clear hb
  go_wp2_with fail
  clear d1
  go_loopw [13] (fun z wr => ∃ i : Nat, i ≤ n ∧ z = .int .i64 i ∧ (∀ i' j, i' < i → j < n → M.bad rs j i' = false) ∧ Below w1.heap.size w1 wr) (fun z _ => n - (intOf z).toNat)
  case atStart => exact ⟨0, by omega, rfl, fun i' j h => absurd h (by omega), Below.refl _ _⟩
  case round =>
    obtain ⟨i, hi, rfl, hrow, hb⟩ := hrel
    have e1 := cellKeep hb D1.out
    have HROW := Lib.hid hrow
    have HB := Lib.hid hb
    by_cases hlt : i < n
    case neg =>
      have HE := Lib.hid (HYES.out fun a b ha hb' => HROW.out b a (by omega) ha)
      clear hrow hb
      go_wp2
      go_ret
      exact ⟨ret_bool HE.out.symm, HB0.out.trans (HB.out.mono HB0.out.size)⟩
    case pos =>
    obtain ⟨b, o, hA0, hz, hr1, hr2⟩ := (HA1.out.below hb).ruleAt (k := i) hlt
    have e2 := allocKeep1 e1
    have HI := Lib.hid (HS.out rs[i] (List.getElem_mem hz))
    have HIP := Lib.hid (HPOS.out rs[i] (List.getElem_mem hz))
    have HBAD := Lib.hid (fun j hj => bad_at (rs := rs) (i := j) (j := i) hj hz)
    generalize rs[i] = ri at *
    obtain ⟨il, ir⟩ := ri
    simp only at hr1 hr2 HI HIP HBAD
    subst hA0
    have HAL := Lib.hid (show ∀ x, Below wr.heap.size wr (wr.alloc x) from fun x => (Below.refl _ _).alloc (Nat.le_refl _) x)
    clear hrow hb
    obtain ⟨wo, hwo⟩ : ∃ wo : World, wo = wr := ⟨_, rfl⟩
    rw [← hwo] at HB e1 e2 hr1 hr2 HAL ⊢
    clear hwo
    go_wp2_with fail
    obtain ⟨v1, hv1⟩ : ∃ v1 : World, v1 = wo.alloc (.cells #[.string ⟨il.toArray⟩, .string ⟨ir.toArray⟩] 90) := ⟨_, rfl⟩
    have G0 := Lib.hid (show v1.cell? ⟨wo.heap.size, 0, none⟩ = some (.string ⟨il.toArray⟩) by rw [hv1]; simp [go_sem])
    have G1 := Lib.hid (show v1.cell? ⟨wo.heap.size, 1, none⟩ = some (.string ⟨ir.toArray⟩) by rw [hv1]; simp [go_sem])
    have HB1 := Lib.hid (show Below w1.heap.size w1 v1 by rw [hv1]; exact HB.out.alloc HB.out.size _)
    rw [← hv1]
    clear hv1 e1 e2 hr1 hr2
    go_loopw [21] (fun z wr => ∃ j : Nat, j ≤ n ∧ z = .int .i64 j ∧ (∀ j', j' < j → M.bad rs j' i = false) ∧ Below v1.heap.size v1 wr) (fun z _ => n - (intOf z).toNat)
    case atStart => exact ⟨0, by omega, rfl, fun j' h => absurd h (by omega), by first | exact Below.refl _ _ | exact (Below.refl _ _).drew⟩
    case round =>
      obtain ⟨j, hj, rfl, hcol, hb⟩ := hrel
      have e1 := cellKeep (HB1.out.trans (hb.mono HB1.out.size)) D1.out
      have g0 := allocKeep1 (cellKeep hb G0.out)
      have g1 := allocKeep1 (cellKeep hb G1.out)
      have HB2 := Lib.hid hb
      have HCOL := Lib.hid hcol
      by_cases hjn : j < n
      case neg =>
        have HR := Lib.hid (show ∀ i' j', i' < i + 1 → j' < n → M.bad rs j' i' = false from fun i' j' h1 h2 => by
          by_cases he : i' = i
          · subst he; exact HCOL.out j' (by omega)
          · exact HROW.out i' j' (by omega) h2)
        clear hcol hb g0 g1
        go_wp2
        go_roundw
        case rel => exact ⟨i + 1, by omega, by go_num, HR.out, HB1.out.trans (HB2.out.mono HB1.out.size)⟩
        case measure => simp [intOf] <;> omega
      case pos =>
      obtain ⟨b2, o2, hA2, hz2, hc1, hc2⟩ := (HA1.out.below (HB1.out.trans (hb.mono HB1.out.size))).ruleAt (k := j) hjn
      have HJ := Lib.hid (HS.out rs[j] (List.getElem_mem hz2))
      have HJP := Lib.hid (HPOS.out rs[j] (List.getElem_mem hz2))
      have HBJ := Lib.hid (HBAD.out j hz2)
      injection hA2 with hA2
      injection hA2 with hA2 hA3
      subst hA2
      subst hA3
      have HBD := Lib.hid (fun (h : M.bad rs j i = true) => HNO.out j i hjn hlt h)
      have HOK := Lib.hid (fun (h : M.bad rs j i = false) => show ∀ j', j' < j + 1 → M.bad rs j' i = false from fun j' h1 => by
        by_cases he : j' = j
        · subst he; exact h
        · exact HCOL.out j' (by omega))
      have HK := Lib.hid (fun x y => (show Below w.heap.size w x from y))
      generalize rs[j] = rj at *
      obtain ⟨jl, jr⟩ := rj
      simp only at hc1 hc2 HJ HJP HBJ
      clear hcol hb

      have HC1 := Lib.hid (fun W h => contains_c jl il m W HJ.out.1 HIP.out h)
      have HC2 := Lib.hid (fun W h => contains_c jr il m W HJ.out.2 HIP.out h)
      generalize M.occ jl il = a1 at *
      generalize M.occ jr il = a2 at *
      have HMM := Lib.hid (fun W (h : Below wr.heap.size wr W) => cellKeep (HB0.out.trans ((HB1.out.trans ((HB2.out.trans (h.mono HB2.out.size)).mono HB1.out.size)).mono HB0.out.size)) HM.out)
      by_cases hij : j = i
      case pos =>
        have hij' : ((j : Int) != (i : Int)) = false := by rw [bne_eq_false_iff_eq]; omega
        cases a2
        case true =>
          have HV := Lib.hid (HBD.out (by rw [HBJ.out]; simp))
          clear hij
          go_wp2_with fail
          refine (HC2.out _ (HMM.out _ ((Below.refl wr.heap.size wr).alloc (Nat.le_refl _) _))).mono ?_
          rintro e w2 ⟨rfl, rfl⟩
          go_wp2_with fail
          go_ret
          exact ⟨ret_bool HV.out.symm, HB0.out.trans ((HB1.out.trans ((HB2.out.trans (((Below.refl wr.heap.size wr).alloc (Nat.le_refl _) _).mono HB2.out.size)).mono HB1.out.size)).mono HB0.out.size)⟩
        case false =>
          have HV := Lib.hid (HOK.out (by rw [HBJ.out]; simp [hij]))
          clear hij
          go_wp2_with fail
          refine (HC2.out _ (HMM.out _ ((Below.refl wr.heap.size wr).alloc (Nat.le_refl _) _))).mono ?_
          rintro e w2 ⟨rfl, rfl⟩
          go_wp2_with fail
          go_roundw
          case rel => exact ⟨j + 1, by omega, by go_num, HV.out, HB2.out.trans (((Below.refl wr.heap.size wr).alloc (Nat.le_refl _) _).mono HB2.out.size)⟩
          case measure => simp [intOf] <;> omega
      case neg =>
        have hij' : ((j : Int) != (i : Int)) = true := by rw [bne_iff_ne]; omega
        cases a1
        case true =>
          have HV := Lib.hid (HBD.out (by rw [HBJ.out]; simp [hij]))
          clear hij
          go_wp2_with fail
          refine (HC1.out _ (HMM.out _ ((Below.refl wr.heap.size wr).alloc (Nat.le_refl _) _))).mono ?_
          rintro e w2 ⟨rfl, rfl⟩
          go_wp2_with fail
          go_ret
          exact ⟨ret_bool HV.out.symm, HB0.out.trans ((HB1.out.trans ((HB2.out.trans (((Below.refl wr.heap.size wr).alloc (Nat.le_refl _) _).mono HB2.out.size)).mono HB1.out.size)).mono HB0.out.size)⟩
        case false =>
        cases a2
        case true =>
          have HV := Lib.hid (HBD.out (by rw [HBJ.out]; simp))
          clear hij
          go_wp2_with fail
          refine (HC1.out _ (HMM.out _ ((Below.refl wr.heap.size wr).alloc (Nat.le_refl _) _))).mono ?_
          rintro e w2 ⟨rfl, rfl⟩
          go_wp2_with fail
          refine (HC2.out _ (HMM.out _ ((Below.refl wr.heap.size wr).alloc (Nat.le_refl _) _))).mono ?_
          rintro e w2 ⟨rfl, rfl⟩
          go_wp2_with fail
          go_ret
          exact ⟨ret_bool HV.out.symm, HB0.out.trans ((HB1.out.trans ((HB2.out.trans (((Below.refl wr.heap.size wr).alloc (Nat.le_refl _) _).mono HB2.out.size)).mono HB1.out.size)).mono HB0.out.size)⟩
        case false =>
          have HV := Lib.hid (HOK.out (by rw [HBJ.out]; simp))
          clear hij
          go_wp2_with fail
          refine (HC1.out _ (HMM.out _ ((Below.refl wr.heap.size wr).alloc (Nat.le_refl _) _))).mono ?_
          rintro e w2 ⟨rfl, rfl⟩
          go_wp2_with fail
          refine (HC2.out _ (HMM.out _ ((Below.refl wr.heap.size wr).alloc (Nat.le_refl _) _))).mono ?_
          rintro e w2 ⟨rfl, rfl⟩
          go_wp2_with fail
          go_roundw
          case rel => exact ⟨j + 1, by omega, by go_num, HV.out, HB2.out.trans (((Below.refl wr.heap.size wr).alloc (Nat.le_refl _) _).mono HB2.out.size)⟩
          case measure => simp [intOf] <;> omega

end Go.Proofs.Ytoijojdegohknaa
