/-
  Contracts of the laws' helpers on slices of rules and on systems: measured, copied, compared.
  Conditions: at most 2^20 elements.
-/
import Derived.Test.YtlohpphmamapeaaSide
import Derived.Test.YtlohpphmamapeaaEqC
import Derived.Test.YtlohpphmamapeaaCells
import Derived.Test.YtlohpphmamapeaaPart
import Derived.Deep.RegionHeld3
namespace Go.Proofs.Ytlohpphmamapeaa
open Go.RowKit
set_option linter.unusedVariables false

theorem below_two (w : World) (o p : Obj) : Below w.heap.size w ((w.alloc o).alloc p) := ((Below.refl _ _).alloc (Nat.le_refl _) _).alloc (by simp) _

set_option maxRecDepth 100000 in
set_option maxHeartbeats 1000000 in
theorem szRuleS_c (A : Option Addr) (c : Nat) (rs : List M.Rule) (n : Int) (w : World) (hA : Rd w 2 A rs.length (ruls rs)) (hl : rs.length ≤ 9223372036854775807) (hs : ∀ r ∈ rs, r.left.length ≤ 9223372036854775807 ∧ r.right.length ≤ 9223372036854775807) (hn : n ≤ 1048576) (hn0 : 0 ≤ n) :
    Calls Try.prog 48 #[.slice A rs.length c, .int .i64 n] w fun e w' => e = .returned (.int .i64 (M.szRules rs n)) ∧ Below w.heap.size w w' := by
  unfold M.szRules
  by_cases h1 : n - rs.length < 0
  · rw [if_pos h1]
    go_enter Try.func48, Try.ntmps48
    go_wp2
    go_ret
    exact ⟨rfl, Below.refl _ _⟩
  · rw [if_neg h1]
    have HA := Lib.hid hA
    have HS := Lib.hid hs
    obtain ⟨q, hq⟩ : ∃ q, q = M.szFrom rs (n - rs.length) := ⟨_, rfl⟩
    rw [← hq]
    have HQ := Lib.hid hq
    obtain ⟨m, hm⟩ : ∃ m, m = rs.length := ⟨_, rfl⟩
    rw [← hm]
    rw [← hm] at h1
    have HM := Lib.hid hm
    have hmb : m ≤ 1048576 := by omega
    clear hA hs hq hm hl
    go_enter Try.func48, Try.ntmps48
    go_wp2
    go_loopw [1, 5] (fun l i wr => ∃ (k : Nat) (z : Int), k ≤ m ∧ i = .int .i64 k ∧ l = .int .i64 z ∧ 0 ≤ z ∧ z ≤ 1048576 ∧ M.szFrom (rs.drop k) z = q ∧ Below w.heap.size w wr) (fun _ i _ => m - (intOf i).toNat)
    case atStart => exact ⟨0, n - m, by omega, rfl, rfl, by omega, by omega, by rw [HQ.out, List.drop_zero, HM.out], Below.refl _ _⟩
    case round =>
      obtain ⟨k, z, hk, rfl, rfl, hz0, hz1, hf, hb⟩ := hrel
      have HB := Lib.hid hb
      have HF := Lib.hid hf
      clear hb hf
      by_cases hlt : k < m
      · obtain ⟨b, o, rfl, hz, hc1, hc2⟩ := (HA.out.below HB.out).ruleAt (k := k) (by have := HM.out; omega)
        have hs := HS.out rs[k] (List.getElem_mem hz)
        have hd : rs.drop k = rs[k] :: rs.drop (k + 1) := List.drop_eq_getElem_cons hz
        have HF2 := Lib.hid (show M.szFrom (rs[k] :: rs.drop (k + 1)) z = q by rw [← hd]; exact HF.out)
        clear hd
        generalize rs[k] = r at *
        obtain ⟨rl, rr⟩ := r
        have h3 := Lib.hid (fun W => szRule_c rl rr z W hs.1 hs.2 hz1 hz0)
        by_cases hneg : M.szRule ⟨rl, rr⟩ z < 0
        · have e : q = -1 := by have := HF2.out; rw [M.szFrom, if_pos hneg] at this; exact this.symm
          generalize M.szRule ⟨rl, rr⟩ z = y at *
          go_wp2_with fail
          refine (h3.out _).mono ?_
          rintro e w1 ⟨rfl, hb1⟩
          go_wp2_with fail
          go_ret
          exact ⟨ret_int e.symm, HB.out.trans (hb1.mono HB.out.size)⟩
        · have hok := M.szRule_ok hneg
          have HF3 := Lib.hid (show M.szFrom (rs.drop (k + 1)) (M.szRule ⟨rl, rr⟩ z) = q by have := HF2.out; rw [M.szFrom, if_neg hneg] at this; exact this)
          generalize M.szRule ⟨rl, rr⟩ z = y at *
          have HY := Lib.hid hok
          clear hok
          go_wp2_with fail
          refine (h3.out _).mono ?_
          rintro e w1 ⟨rfl, hb1⟩
          go_wp2_with fail
          go_roundw
          case rel => exact ⟨k + 1, y, by omega, by go_num, rfl, by have := HY.out; omega, by have := HY.out; omega, HF3.out, HB.out.trans (hb1.mono HB.out.size)⟩
          case measure => simp [intOf]; omega
      · have e : z = q := by have := HF.out; rw [List.drop_eq_nil_of_le (by have := HM.out; omega)] at this; exact this
        go_wp2
        go_ret
        exact ⟨ret_int e, HB.out⟩

theorem rule_ext {x y : M.Rule} (h : x.left = y.left) (h' : x.right = y.right) : x = y := by cases x; cases y; simp_all
set_option maxRecDepth 100000 in
set_option maxHeartbeats 1000000 in
theorem eqRuleS_c (A B : Option Addr) (c d : Nat) (xs ys : List M.Rule) (w : World) (hA : Rd w 2 A xs.length (ruls xs)) (hB : Rd w 2 B ys.length (ruls ys)) (hx : xs.length ≤ 1099511627776) (hy : ys.length ≤ 1099511627776) :
    Calls Try.prog 52 #[.slice A xs.length c, .slice B ys.length d] w fun e w' => e = .returned (.bool (decide (xs = ys))) ∧ Below w.heap.size w w' := by
  by_cases hl : xs.length = ys.length
  case neg =>
    rw [decide_eq_false (show ¬ xs = ys from fun e => hl (by rw [e]))]
    have hl' : ((xs.length : Int) != (ys.length : Int)) = true := by rw [bne_iff_ne]; omega
    go_enter Try.func52, Try.ntmps52
    go_wp2
    go_ret
    exact ⟨rfl, Below.refl _ _⟩
  case pos =>
    have HL := Lib.hid hl
    have HA := Lib.hid hA
    have HB := Lib.hid hB
    obtain ⟨n, hn⟩ : ∃ n, n = ys.length := ⟨_, rfl⟩
    have hn1 : xs.length = n := by omega
    rw [hn1, ← hn]
    have HN := Lib.hid hn
    have HN1 := Lib.hid hn1
    have hn2 : n ≤ 1099511627776 := by omega
    clear hA hB hn hn1 hl hx hy
    go_enter Try.func52, Try.ntmps52
    go_wp2
    go_loopw [5] (fun i wr => ∃ k : Nat, k ≤ n ∧ i = .int .i64 k ∧ xs.take k = ys.take k ∧ Below w.heap.size w wr) (fun i _ => n - (intOf i).toNat)
    case atStart => exact ⟨0, by omega, rfl, by simp, Below.refl _ _⟩
    case round =>
      obtain ⟨k, hk, rfl, ht, hb⟩ := hrel
      have HT := Lib.hid ht
      have HW := Lib.hid hb
      clear ht hb
      by_cases hlt : k < n
      · obtain ⟨b1, o1, rfl, hz1, hc1, hd1⟩ := (HA.out.below HW.out).ruleAt (k := k) (by have := HN1.out; omega)
        obtain ⟨b2, o2, rfl, hz2, hc2, hd2⟩ := (HB.out.below HW.out).ruleAt (k := k) (by have := HN.out; omega)
        have hq := Lib.hid (fun W => eqRule_c xs[k].left xs[k].right ys[k].left ys[k].right W)
        by_cases he : xs[k] = ys[k]
        · have HE := Lib.hid (take_eq_succ hz1 hz2 HT.out he)
          have hd := Lib.hid (decide_eq_true (show xs[k].left = ys[k].left ∧ xs[k].right = ys[k].right by rw [he]; exact ⟨rfl, rfl⟩))
          rw [hd.out] at hq
          clear he
          generalize xs[k] = x at *
          generalize ys[k] = y at *
          obtain ⟨xl, xr⟩ := x
          obtain ⟨yl, yr⟩ := y
          simp only at hc1 hd1 hc2 hd2 hq
          go_wp2
          go_region_held3 (fun w' => w'.cell? ⟨b1, o1 + k * 2, none⟩ = some (.string ⟨xl.toArray⟩) ∧ w'.cell? ⟨b1, o1 + k * 2 + 1, none⟩ = some (.string ⟨xr.toArray⟩) ∧ w'.cell? ⟨b2, o2 + k * 2, none⟩ = some (.string ⟨yl.toArray⟩) ∧ w'.cell? ⟨b2, o2 + k * 2 + 1, none⟩ = some (.string ⟨yr.toArray⟩) ∧ Below wr.heap.size wr w') (first | exact ⟨hc1, hd1, hc2, hd2, (Below.refl _ _).drew⟩ | assumption | exact held4 (by assumption) hb1) (first | (go_simp; go_at_call 110; refine (hq.out _).mono ?_; rintro e w1 ⟨rfl, hb1⟩))
          all_goals
            have hh : Below wr.heap.size wr w1 := held4_below (by assumption)
            go_wp2
            go_roundw
            case rel => exact ⟨k + 1, by omega, by go_num, HE.out, HW.out.trans (hh.mono HW.out.size)⟩
            case measure => simp [intOf]; omega
        · have HE := Lib.hid (ne_at hz1 hz2 he)
          have hd := Lib.hid (decide_eq_false (show ¬ (xs[k].left = ys[k].left ∧ xs[k].right = ys[k].right) from fun h => he (rule_ext h.1 h.2)))
          rw [hd.out] at hq
          clear he
          generalize xs[k] = x at *
          generalize ys[k] = y at *
          obtain ⟨xl, xr⟩ := x
          obtain ⟨yl, yr⟩ := y
          simp only at hc1 hd1 hc2 hd2 hq
          go_wp2
          go_region_held3 (fun w' => w'.cell? ⟨b1, o1 + k * 2, none⟩ = some (.string ⟨xl.toArray⟩) ∧ w'.cell? ⟨b1, o1 + k * 2 + 1, none⟩ = some (.string ⟨xr.toArray⟩) ∧ w'.cell? ⟨b2, o2 + k * 2, none⟩ = some (.string ⟨yl.toArray⟩) ∧ w'.cell? ⟨b2, o2 + k * 2 + 1, none⟩ = some (.string ⟨yr.toArray⟩) ∧ Below wr.heap.size wr w') (first | exact ⟨hc1, hd1, hc2, hd2, (Below.refl _ _).drew⟩ | assumption | exact held4 (by assumption) hb1) (first | (go_simp; go_at_call 110; refine (hq.out _).mono ?_; rintro e w1 ⟨rfl, hb1⟩))
          all_goals
            have hh : Below wr.heap.size wr w1 := held4_below (by assumption)
            go_wp2
            go_ret
            exact ⟨ret_bool (decide_eq_false HE.out).symm, HW.out.trans (hh.mono HW.out.size)⟩
      · go_wp2
        go_ret
        exact ⟨ret_bool (decide_eq_true (eq_of_takes HL.out (by have := HN1.out; omega) HT.out)).symm, HW.out⟩
theorem eqRuleS_t (A B : Option Addr) (c d : Nat) (xs : List M.Rule) (w : World) (hA : Rd w 2 A xs.length (ruls xs)) (hB : Rd w 2 B xs.length (ruls xs)) (hx : xs.length ≤ 1099511627776) :
    Calls Try.prog 52 #[.slice A xs.length c, .slice B xs.length d] w fun e w' => e = .returned (.bool true) ∧ Below w.heap.size w w' :=
  (eqRuleS_c A B c d xs xs w hA hB hx hx).mono fun _ _ ⟨he, hb⟩ => ⟨he.trans (ret_bool (decide_eq_true rfl)), hb⟩

set_option maxRecDepth 100000 in
set_option maxHeartbeats 1000000 in
theorem toRuleS_c (A : Option Addr) (c : Nat) (rs : List M.Rule) (w : World) (hA : Rd w 2 A rs.length (ruls rs)) (hl : rs.length ≤ 1048576) :
    Calls Try.prog 50 #[.slice A rs.length c] w (RetRd (fun A c => .slice A rs.length c) 2 rs.length (ruls rs) w) := by
  have HA := Lib.hid hA
  obtain ⟨n, hn⟩ : ∃ n, n = rs.length := ⟨_, rfl⟩
  have hnb : n ≤ 1048576 := by omega
  have HN := Lib.hid hn
  rw [← hn]
  clear hA hl hn
  go_enter Try.func50, Try.ntmps50
  go_wp2_with (at_make; refine make_law rfl _ rfl slRule rfl (by omega) ?_; intro zs w' hzl hown hb')
  obtain ⟨g, hg⟩ : ∃ g, g = w.heap.size := ⟨_, rfl⟩
  rw [← hg] at hown ⊢
  have HO := Lib.hid hown
  have HB := Lib.hid hb'
  have HL := Lib.hid hzl
  have HG := Lib.hid hg
  clear hown hb' hzl hg
  go_loopw [4] (fun i wr => ∃ k : Nat, k ≤ n ∧ i = .int .i64 k ∧ Own wr g 2 (some ⟨g, 0, none⟩) n (part rule2 rs zs 2 k) ∧ Below w.heap.size w wr) (fun i _ => n - (intOf i).toNat)
  case atStart => exact ⟨0, by omega, rfl, by rw [part_zero]; exact HO.out, HB.out⟩
  case round =>
    obtain ⟨k, hk, rfl, hown, hb⟩ := hrel
    by_cases hlt : k < n
    · obtain ⟨b, o, rfl, hz, hc, hd⟩ := (HA.out.below hb).ruleAt (k := k) (by have := HN.out; omega)
      have HP := Lib.hid (fun u v (h : rule2 rs[k] = [u, v]) => part2 (f := rule2) (rs := rs) (zs := zs) (fun _ => rfl) hz (by have h1 := HL.out; have h2 := HN.out; omega) h)
      have HO := Lib.hid hown
      have HB := Lib.hid hb
      clear hown hb
      generalize rs[k] = r at *
      obtain ⟨rl, rr⟩ := r
      simp only at hc hd
      go_wp2_with fail
      refine (toRule_c rl rr _).mono ?_
      rintro e w1 ⟨rfl, hb1⟩
      have HO1 := HO.out.below hb1
      obtain ⟨hgb, hcs, hfs, hset⟩ := HO1.at0 (by omega)
      have hlm : k * 2 + 1 < (part rule2 rs zs 2 k).length := by have := HO1.len; omega
      have hc1 := hcs (k * 2) _ (List.getElem?_eq_getElem (by omega))
      have hc2 := hcs (k * 2 + 1) _ (List.getElem?_eq_getElem hlm)
      have hf1 := hfs (k * 2)
      have hf2 := hfs (k * 2 + 1)
      have HS := Lib.hid (((hset (k * 2) (.string ⟨rl.toArray⟩)).at0 (by omega)).2.2.2 (k * 2 + 1) (.string ⟨rr.toArray⟩))
      have HT := Lib.hid (HB.out.trans (hb1.mono HB.out.size))
      have HGG := Lib.hid hgb
      generalize (part rule2 rs zs 2 k)[k * 2] = v1 at hc1
      generalize (part rule2 rs zs 2 k)[k * 2 + 1] = v2 at hc2
      clear hcs hfs hset HO1 hb1 hgb
      go_wp2_with fail
      go_roundw
      case rel => exact ⟨k + 1, by omega, by go_num, by have h1 := HS.out; rwa [HP.out _ _ rfl] at h1, (HT.out.setCell (by have := HG.out; simp; omega) _).setCell (by have := HG.out; simp; omega) _⟩
      case measure => simp [intOf]; omega
    · obtain rfl : k = n := by omega
      have HO := Lib.hid hown
      have HB := Lib.hid hb
      clear hown hb
      go_wp2
      go_ret
      exact ⟨_, _, rfl, by have h1 := HO.out; have h2 := HN.out; subst h2; rw [part_all HL.out] at h1; have h3 := HG.out; subst h3; exact h1, HB.out⟩

set_option maxRecDepth 100000 in
set_option maxHeartbeats 1000000 in
theorem szSystem_c (k : Int) (A : Option Addr) (c : Nat) (rs : List M.Rule) (n : Int) (w : World) (hA : Rd w 2 A rs.length (ruls rs)) (hl : rs.length ≤ 9223372036854775807) (hs : ∀ r ∈ rs, r.left.length ≤ 9223372036854775807 ∧ r.right.length ≤ 9223372036854775807) (hn : n ≤ 1048576) (hn0 : 0 ≤ n) :
    Calls Try.prog 14 #[.agg #[.int .i64 k, .slice A rs.length c], .int .i64 n] w fun e w' => e = .returned (.int .i64 (if M.szRules rs n < 0 then -1 else M.szRules rs n)) ∧ Below w.heap.size w w' := by
  have h1 := Lib.hid (fun W h => szRuleS_c A c rs n W h hl hs hn hn0)
  have HA := Lib.hid hA
  by_cases hneg : M.szRules rs n < 0
  all_goals
    first | rw [if_pos hneg] | rw [if_neg hneg]
    clear hA hs
    generalize M.szRules rs n = z at *
    go_enter Try.func14, Try.ntmps14
    go_wp2_with fail
    refine (h1.out _ (HA.out.below ((Below.refl _ _).alloc (Nat.le_refl _) _))).mono ?_
    rintro e w1 ⟨rfl, hb1⟩
    go_wp2_with fail
    go_ret
    exact ⟨rfl, below_alloc1 hb1⟩
set_option maxRecDepth 100000 in
set_option maxHeartbeats 1000000 in
theorem toSystem_c (k : Int) (A : Option Addr) (c : Nat) (rs : List M.Rule) (w : World) (hA : Rd w 2 A rs.length (ruls rs)) (hl : rs.length ≤ 1048576) :
    Calls Try.prog 16 #[.agg #[.int .i64 k, .slice A rs.length c]] w (RetRd (fun A c => .agg #[.int .i64 k, .slice A rs.length c]) 2 rs.length (ruls rs) w) := by
  have h1 := Lib.hid (fun W h => toRuleS_c A c rs W h hl)
  have HA := Lib.hid hA
  clear hA
  go_enter Try.func16, Try.ntmps16
  go_wp2_with fail
  refine (h1.out _ (HA.out.below (by repeat (first | exact Below.refl _ _ | refine Below.setCell ?_ (by simp <;> omega) _ | refine Below.alloc ?_ (by simp <;> omega) _)))).mono ?_
  rintro e w1 ⟨A1, c1, rfl, hr, hb1⟩
  have k1 : w1.cell? ⟨w.heap.size + 1 + 1, 0, none⟩ = some (.int .i64 k) := cellKeep hb1 (by simp [go_sem])
  have k2 : w1.cell? ⟨w.heap.size + 1 + 1, 1, none⟩ = some (.slice none 0 0) := cellKeep hb1 (by simp [go_sem])
  have d1 : w1.cell? ⟨w.heap.size + 1, 0, none⟩ = some (.int .i64 0) := cellKeep hb1 (by simp [go_sem])
  have d2 : w1.cell? ⟨w.heap.size + 1, 1, none⟩ = some (.slice none 0 0) := cellKeep hb1 (by simp [go_sem])
  have f1 : w1.frozen? ⟨w.heap.size + 1 + 1, 1, none⟩ = false := ((bcell hb1).2 _ _ (by simp)).trans (by simp [go_sem])
  have f2 : w1.frozen? ⟨w.heap.size + 1, 0, none⟩ = false := ((bcell hb1).2 _ _ (by simp)).trans (by simp [go_sem])
  have f3 : w1.frozen? ⟨w.heap.size + 1, 1, none⟩ = false := ((bcell hb1).2 _ _ (by simp)).trans (by simp [go_sem])
  have HO := Lib.hid (hr.mono (base' := w.heap.size + 3) (by simp))
  have HB := Lib.hid (below_alloc1 (below_alloc1 (below_alloc1 hb1)))
  clear hr hb1
  obtain ⟨S, hS⟩ : ∃ S, S = Value.slice A1 rs.length c1 := ⟨_, rfl⟩
  have e1 : (w1.setCell ⟨w.heap.size + 1 + 1, 1, none⟩ S).cell? ⟨w.heap.size + 1, 0, none⟩ = some (.int .i64 0) := (cell_set_ne _ (by omega)).trans d1
  have e2 : (w1.setCell ⟨w.heap.size + 1 + 1, 1, none⟩ S).cell? ⟨w.heap.size + 1, 1, none⟩ = some (.slice none 0 0) := (cell_set_ne _ (by omega)).trans d2
  have e3 : (w1.setCell ⟨w.heap.size + 1 + 1, 1, none⟩ S).cell? ⟨w.heap.size + 1 + 1, 1, none⟩ = some S := cell_set_eq _ k2
  have e4 : (w1.setCell ⟨w.heap.size + 1 + 1, 1, none⟩ S).cell? ⟨w.heap.size + 1 + 1, 0, none⟩ = some (.int .i64 k) := (cell_set_ne _ (by omega)).trans k1
  subst hS
  go_wp2_with fail
  refine bodyPost_ret (v := .agg #[.int .i64 k, .slice A1 rs.length c1]) ?_ rfl ⟨_, _, rfl, ?_, ?_⟩
  · simp [results, Try.results16, go_sem, cell_set_ne, cell_set_eq _ e1, cell_two' e2]
  · exact (((HO.out.setLow (by omega)).setLow (by omega)).setLow (by omega)).mono (by omega)
  · exact ((HB.out.setCell (by simp; omega) _).setCell (by simp) _).setCell (by simp) _
set_option maxRecDepth 100000 in
set_option maxHeartbeats 1000000 in
theorem eqSystem_t (k : Int) (A B : Option Addr) (c d : Nat) (rs : List M.Rule) (w : World) (hA : Rd w 2 A rs.length (ruls rs)) (hB : Rd w 2 B rs.length (ruls rs)) (hx : rs.length ≤ 1099511627776) :
    Calls Try.prog 18 #[.agg #[.int .i64 k, .slice A rs.length c], .agg #[.int .i64 k, .slice B rs.length d]] w fun e w' => e = .returned (.bool true) ∧ Below w.heap.size w w' := by
  have h1 := Lib.hid (fun W h h' => eqRuleS_t A B c d rs W h h' hx)
  have HA := Lib.hid hA
  have HB := Lib.hid hB
  clear hA hB
  go_enter Try.func18, Try.ntmps18
  go_wp2_with fail
  have hp := below_two w
  refine (h1.out _ (HA.out.below (hp _ _)) (HB.out.below (hp _ _))).mono ?_
  rintro e w1 ⟨rfl, hb1⟩
  go_wp2_with fail
  go_ret
  exact ⟨rfl, below_alloc2 hb1⟩

end Go.Proofs.Ytlohpphmamapeaa
