/-
  The contract of the iterator over boxes; contracts of isMapped, of l11Lists and l11Images of the reference.
  Conditions: lists of 1 to 4 numbers below a bound from 1 to 40; at most 2^20 rules, entries.
-/
import Derived.Test.YtlohpphmamapeaaBoxL
import Derived.Test.YtlohpphmamapeaaBoxM
import Derived.Sort.LoopGhostIn
import Derived.Test.YtlohpphmamapeaaComm
import Derived.Test.YtlohpphmamapeaaIdealS
namespace Go.Proofs.Ytlohpphmamapeaa
open Go Go.RowKit Go.Shelf
set_option linter.unusedVariables false
set_option linter.unusedSimpArgs false
attribute [local go_sem] Oper.semAt_some

theorem zerosInt (n : Nat) : (madeCells (Value.int .i64 0).cells (n * 1)).toList = ints (List.replicate n 0) := by
  apply List.ext_getElem?
  intro j
  by_cases hj : j < n
  · rw [ints_at (by simp; omega), List.getElem_replicate, Array.getElem?_toList]
    unfold madeCells
    simp [hj, Value.cells, Nat.mod_one]
  · rw [List.getElem?_eq_none (l := ints (List.replicate n 0)) (by rw [ints_len]; simp; omega), Array.getElem?_toList, Array.getElem?_eq_none (by simp [madeCells]; omega)]
theorem makeIn_ints {q : Nat} {ops : Array Oper} {rest : List Oper} {o : Oper} {a : Act} {Q : Exit → Act → World → Prop} {w : World} (hgd : o.guard = none) (l : Operand) (ho : o.op = .makeSlice 35 l l)
    {n : Nat} (hl : a.eval l = .int .i64 (n : Int)) (hn : n ≤ 1048576)
    (h : ∀ w', w'.ownsRow w.heap.size 3 1 (.slice (some ⟨w.heap.size, 0, none⟩) n n) n (ints (List.replicate n 0)) → w.grownBy w' none → wpListIn Fence.wide q Try.prog ops Q rest (a.put o.dst (.slice (some ⟨w.heap.size, 0, none⟩) n n)) w') : wpListIn Fence.wide q Try.prog ops Q (o :: rest) a w := by
  obtain ⟨i, z, hi, hz, hsz, hby, hzs⟩ := slInt.info
  have hz0 : z = .int .i64 0 := by
    have h1 : ((Try.prog.info? 3).bind (·.zero)) = some (.int .i64 0) := by kernel_rfl
    rw [hi] at h1
    simp only [Option.bind_some] at h1
    rw [hz] at h1
    injection h1
  subst hz0
  refine wpListIn_plain hgd fun K hK' => ?_
  obtain ⟨w', hrun, r1, r2⟩ := run_make_full (P := Try.prog) w w.heap.size 35 3 i (.int .i64 0) 1 slInt.und hi hz hsz .i64 .i64 n (by have := Nat.mul_le_mul hby hn; omega) (by simp only [maxLen]; omega) (Nat.le_refl _)
  rw [zerosInt] at r1
  unfold Oper.wpIn
  refine ⟨?_, ?_⟩
  · simp [Oper.about, ho]
  · rw [Oper.semAt_plain Fence.wide _ _ (by rw [ho]; intro c hc'; cases hc')]
    simp [execOp, ho, hl, hrun, Result.andThen]
    exact hK' _ _ (h w' r1 r2)
set_option maxRecDepth 100000 in
theorem boxes_c (m n : Int) (w : World) : Calls Try.prog 79 #[.int .i64 m, .int .i64 n] w fun e w' => e = .returned (.func (.func 135) #[] #[.pointer (some ⟨w.heap.size, 0, none⟩), .pointer (some ⟨w.heap.size + 1, 0, none⟩)]) ∧ w' = (w.alloc (.cells #[.int .i64 m] 3)).alloc (.cells #[.int .i64 n] 3) := by
  have hmf : ∀ (fn : Fn) (first cap : Array Value) (w : World), (Instr.makeFunc fn first cap).run Try.prog w = .ok (.func fn first cap) w := fun _ _ _ _ => rfl
  go_enter Try.func79, Try.ntmps79
  go_wp2_with fail
  go_ret
  exact ⟨rfl, rfl⟩
set_option maxRecDepth 100000 in
set_option maxHeartbeats 4000000 in
theorem boxes1_in (q m n g1 g2 : Nat) (cb : Option Nat) (w : World) (hm : 1 ≤ m ∧ m ≤ 4) (hn : 1 ≤ n ∧ n ≤ 40) (h1 : w.cell? ⟨g1, 0, none⟩ = some (.int .i64 (m : Int))) (h2 : w.cell? ⟨g2, 0, none⟩ = some (.int .i64 (n : Int)))
    (hc1 : some g1 ≠ cb) (hc2 : some g2 ≠ cb) (hcb : ∀ k, cb = some k → k < w.heap.size) :
    IterB Try.prog 135 #[.pointer (some ⟨g1, 0, none⟩), .pointer (some ⟨g2, 0, none⟩)] (M.imgs n m) m (n ^ m) cb q w := fun l J Jx W hW hab hY h0 => by
  have E1 := Lib.hid (cellKeep hW h1)
  have E2 := Lib.hid (cellKeep hW h2)
  have hs1 := World.block_lt_of_cell? W _ E1.out
  have hs2 := World.block_lt_of_cell? W _ E2.out
  simp only at hs1 hs2
  have hsw := hW.size
  have hcW : ∀ k, cb = some k → k < W.heap.size := fun k e => by have := hcb k e; omega
  have HAB := Lib.hid hab
  have HY := Lib.hid hY
  have H0 := Lib.hid h0
  have HCB := Lib.hid hcW
  have HPOS := Lib.hid (show 0 < n ^ m from Nat.pow_pos (by omega))
  have e1 := E1.out
  clear h1 h2 hab hY h0 hcW hcb
  refine callsIn_of_wp Try.func135 rfl trivial ?_ rfl
  simp only [Try.ntmps135, List.size_toArray, List.length_cons, List.length_nil, Nat.reduceAdd, Nat.reduceSub, Array.replicate_succ, Array.replicate_zero, List.push_toArray, List.append_toArray, List.nil_append, List.cons_append]
  gi_wp2_with (gi_at_make; refine makeIn_ints rfl _ rfl rfl (by omega) ?_; intro w1 hown hgr)
  have O1 := Lib.hid (show Own w1 W.heap.size 1 (some ⟨W.heap.size, 0, none⟩) m (ints (M.imgs n m 0)) by rw [imgs_zero]; exact Own.of_row hown)
  have J1 := Lib.hid (HAB.out 0 _ _ _ H0.out hgr (fun r e => by cases e))
  have F1 := Lib.hid (hgr.cell (a := ⟨g1, 0, none⟩) E1.out (by simp))
  have F2 := Lib.hid (hgr.cell (a := ⟨g2, 0, none⟩) E2.out (by simp))
  have S1 := Lib.hid (show W.heap.size < w1.heap.size from (O1.out.lt W.heap.size (by unfold blk; rw [if_neg (by omega)]; rfl)).2)
  clear hown hgr
  obtain ⟨B, hB⟩ : ∃ B, B = W.heap.size := ⟨_, rfl⟩
  rw [← hB] at O1 S1 HAB HY HCB hs1 hs2 ⊢
  clear hB hsw e1
  gi_loopg [5] (n ^ m) (fun k s wr => ∃ i, i + k = n ^ m ∧ i < n ^ m ∧ J i wr ∧ Own wr B 1 (some ⟨B, 0, none⟩) m (ints (M.imgs n m i)) ∧ B < wr.heap.size ∧ wr.cell? ⟨g1, 0, none⟩ = some (.int .i64 (m : Int)) ∧ wr.cell? ⟨g2, 0, none⟩ = some (.int .i64 (n : Int)))
  case atStart => exact ⟨0, by omega, HPOS.out, J1.out, O1.out, S1.out, F1.out, F2.out⟩
  case round =>
    obtain ⟨i, hik, hiN, hJ, hO, hBs, hg1, hg2⟩ := hrel
    have hY1 := HY.out i B wr hiN hJ hO.rd (Nat.le_refl _)
    have O2 := Lib.hid hO
    have G1 := Lib.hid hg1
    have G2 := Lib.hid hg2
    have IK := Lib.hid hik
    obtain ⟨fn, tmps, assign, body, hy, hR⟩ := hY1
    have hkb : some B ≠ cb := fun e => by have := HCB.out B e.symm; omega
    clear hO hg1 hg2 hJ hik
    gi_wp2
    refine ⟨fun h => by simp [Fence.wide] at h, hR.mono ?_⟩
    rintro e W3 (⟨rfl, hJ3, hg3⟩ | ⟨rfl, hJx⟩)
    case inr =>
      gi_wp2
      go_end0
      exact ⟨⟨_, rfl⟩, Or.inr hJx⟩
    case inl =>
      have O3 := Lib.hid (O2.out.grown hg3 (fun g hg => by unfold blk at hg; rw [if_neg (by omega)] at hg; injection hg with hg; simp only at hg; subst hg; exact hkb))
      have G3 := Lib.hid (hg3.cell (a := ⟨g1, 0, none⟩) G1.out hc1)
      have G4 := Lib.hid (hg3.cell (a := ⟨g2, 0, none⟩) G2.out hc2)
      have J3 := Lib.hid hJ3
      have hB3 : B < W3.heap.size := by have := hg3.size; omega
      have g3 := G3.out
      clear hJ3 hg3 hR hy hkb
      gi_wp2
      clear g3
      have BZ := Lib.hid (boxAt_zero n m i)
      have FZ := Lib.hid (full_zero n i)
      gi_loopw [5] (fun z wr2 => ∃ p qq : Nat, p + qq = m ∧ z = .int .i64 ((p : Int) - 1) ∧ M.Full n i qq ∧ J (i + 1) wr2 ∧ Own wr2 B 1 (some ⟨B, 0, none⟩) m (ints (M.boxAt n m i qq)) ∧ B < wr2.heap.size ∧ wr2.cell? ⟨g1, 0, none⟩ = some (.int .i64 (m : Int)) ∧ wr2.cell? ⟨g2, 0, none⟩ = some (.int .i64 (n : Int))) (fun z _ => (intOf z + 1).toNat)
      case atStart => exact ⟨m, 0, by omega, by go_num, FZ.out, J3.out, by rw [BZ.out]; exact O3.out, hB3, G3.out, G4.out⟩
      case round =>
        obtain ⟨p, qq, hpq, rfl, hfu, hJ, hO, hBs2, hg1, hg2⟩ := hrel
        have FU := Lib.hid hfu
        have JJ := Lib.hid hJ
        have OO := Lib.hid hO
        have H1 := Lib.hid hg1
        have H2 := Lib.hid hg2
        clear hfu hJ hO hg1 hg2
        by_cases hp0 : p = 0
        case pos =>
          subst hp0
          obtain rfl : qq = m := by omega
          have HE := Lib.hid (full_end FU.out hiN)
          have hz : ((0 : Nat) : Int) - 1 = -1 := by omega
          rw [hz]
          clear hz
          gi_wp2
          gi_quiet (fail)
          gi_wp2
          refine bodyPost_ret (results_none rfl _ _ _) rfl ?_
          exact ⟨⟨_, rfl⟩, Or.inl (by rw [← HE.out]; exact HAB.out (i + 1) _ _ none JJ.out (grown_of_below (below_drewN (Below.refl _ _) _) none) (fun r e => by cases e))⟩
        case neg =>
          obtain ⟨p', rfl⟩ : ∃ p', p = p' + 1 := ⟨p - 1, by omega⟩
          have hq : qq < m := by omega
          have hp1 : p' = m - 1 - qq := by omega
          have HGT := Lib.hid (show (M.boxAt n m i qq)[p']? = some ((i / n ^ qq % n : Nat) : Int) by rw [hp1]; exact boxAt_get hq)
          have HNX := Lib.hid (show (M.boxAt n m i qq).set p' 0 = M.boxAt n m i (qq + 1) by rw [hp1]; exact boxAt_next hq)
          have HUP := Lib.hid (fun (h : i / n ^ qq % n + 1 < n) => show (M.boxAt n m i qq).set p' (((i / n ^ qq % n : Nat) : Int) + 1) = M.imgs n m (i + 1) by rw [hp1]; exact box_up (by omega) hq FU.out h)
          have HFS := Lib.hid (fun (h : i / n ^ qq % n + 1 = n) => full_succ FU.out h)
          have HLT := Lib.hid (fun (h : i / n ^ qq % n + 1 < n) => box_lt (by omega) hq FU.out h hiN)
          have hdn : i / n ^ qq % n < n := Nat.mod_lt _ (by omega)
          generalize i / n ^ qq % n = d at *
          have hatq : ((p' + 1 : Nat) : Int) - 1 = (p' : Int) := by omega
          rw [hatq]
          clear hatq hp1 hp0
          have hpm : (p' : Int) < (m : Int) := by omega
          have hpp : (0 : Int) ≤ (p' : Int) := by omega
          have hge : decide ((0 : Int) ≤ (p' : Int)) = true := decide_eq_true hpp
          have hnlt : ¬ ((p' : Int) < 0) := by omega
          have HAT := Lib.hid (fun k => ((OO.out.below (below_drewN (Below.refl wr.heap.size wr) k)).at0 (by omega)))
          have cB : wr.cell? ⟨B, p', none⟩ = some (.int .i64 (d : Int)) := (OO.out.at0 (by omega)).2.1 p' _ (by unfold ints; rw [List.getElem?_map, HGT.out]; rfl)
          have fB : wr.frozen? ⟨B, p', none⟩ = false := (OO.out.at0 (by omega)).2.2.1 p'
          have hh2 := H2.out
          have hgB1 : g1 ≠ B := by omega
          have hgB2 : g2 ≠ B := by omega
          have GR := Lib.hid (fun k u => show wr.grownBy ((wr.drewN k).setCell ⟨B, p', none⟩ u) (some B) from ⟨rfl, rfl, rfl, by simp, fun q _ hq => heap_setCell_other (wr.drewN k) ⟨B, p', none⟩ q u (fun e => hq (by simp [e]))⟩)
          have HI := Lib.hid (show ∀ (l : List Int) (j : Nat) (v : Int), (ints l).set j (.int .i64 v) = ints (l.set j v) from fun l j v => by simp [ints, List.map_set])
          by_cases hd : d + 1 = n
          case pos =>
            have hdb : ((d : Int) == (n : Int) - 1) = true := by rw [beq_iff_eq]; omega
            have FS := Lib.hid (HFS.out hd)
            clear hd
            gi_wp2
            gi_quiet (fail)
            gi_wp2
            go_roundw
            case rel =>
              refine ⟨p', qq + 1, by omega, by go_num, FS.out, HAB.out (i + 1) _ _ (some B) JJ.out (GR.out _ _) (fun r e => by cases e; omega), ?_, by simp; omega, (cell_set_ne _ (Or.inl (Ne.symm hgB1))).trans H1.out, (cell_set_ne _ (Or.inl (Ne.symm hgB2))).trans H2.out⟩
              rw [← HNX.out, ← HI.out]
              exact (HAT.out _).2.2.2 p' _
            case measure => simp [intOf] <;> omega
          case neg =>
            have hd1 : d + 1 < n := by omega
            have hdb : ((d : Int) == (n : Int) - 1) = false := by rw [beq_eq_false_iff_ne]; omega
            have UP := Lib.hid (HUP.out hd1)
            have LT := Lib.hid (HLT.out hd1)
            clear hd
            gi_wp2
            gi_quiet (fail)
            gi_wp2
            go_roundg (gk - 1)
            case measure => have := IK.out; omega
            case rel =>
              refine ⟨i + 1, by have := IK.out; omega, LT.out, HAB.out (i + 1) _ _ (some B) JJ.out (GR.out _ _) (fun r e => by cases e; omega), ?_, by simp; omega, (cell_set_ne _ (Or.inl (Ne.symm hgB1))).trans H1.out, (cell_set_ne _ (Or.inl (Ne.symm hgB2))).trans H2.out⟩
              rw [← UP.out, ← HI.out]
              exact (HAT.out _).2.2.2 p' _
end Go.Proofs.Ytlohpphmamapeaa
namespace Go.Proofs.Ytlohpphmamapeaa
open Go.RowKit
set_option linter.unusedVariables false
set_option linter.unusedSimpArgs false

/-- What a mapped pair gives. -/
structure MapOk (k : Int) (rs : List M.Rule) (n0 : Int) (xs : List Int) (m n : Nat) : Prop where
  hk : k = m
  hn : n0 = n
  m4 : 1 ≤ m ∧ m ≤ 4
  n40 : 1 ≤ n ∧ n ≤ 40
  len : xs.length = n * n
  inp : M.InP n xs
  fit : ∀ r ∈ rs, M.Fit m r
theorem maps_of {k : Int} {rs : List M.Rule} {n0 : Int} {xs : List Int} (h1 : M.RulesOk k rs = true) (h2 : M.TableOk n0 xs = true) (hs : ∀ r ∈ rs, r.left.length ≤ 1048576 ∧ r.right.length ≤ 1048576) : ∃ m n : Nat, MapOk k rs n0 xs m n := by
  obtain ⟨⟨hk1, hk2⟩, hlen, hP, _⟩ := tableOk_of h2
  obtain ⟨n, rfl⟩ : ∃ n : Nat, n0 = n := ⟨n0.toNat, by omega⟩
  simp only [Int.toNat_natCast] at hlen hP
  have hf := fit_of h1 hs
  have hw : 1 ≤ k ∧ k ≤ 4 := by
    unfold M.RulesOk M.within at h1
    simp only [Bool.and_eq_true, decide_eq_true_eq] at h1
    exact h1.1
  obtain ⟨m, rfl⟩ : ∃ m : Nat, k = m := ⟨k.toNat, by omega⟩
  exact ⟨m, n, rfl, rfl, by omega, by omega, hlen, hP, hf⟩
theorem imgs_inp {n : Nat} (hn : 1 ≤ n) (m i : Nat) : M.InP n (M.imgs n m i) := fun z hz => by have := imgs_in (show 0 < n by omega) m i z hz; omega
theorem pow_le40 {n j : Nat} (hn : n ≤ 40) (hj : j ≤ 4) : n ^ j ≤ 2560000 := by
  have h1 := Nat.pow_le_pow_left hn j
  have h2 := Nat.pow_le_pow_right (show 0 < 40 by decide) hj
  have h3 : 40 ^ 4 = 2560000 := by decide
  omega
theorem mapped_no {k : Int} {rs : List M.Rule} {n0 : Int} {xs : List Int} (h : M.RulesOk k rs = false ∨ M.TableOk n0 xs = false) : M.isMapped k rs n0 xs = false := by
  unfold M.isMapped
  rcases h with h | h
  · rw [h]; rfl
  · rw [h]; simp
theorem mapped_yes {k : Int} {rs : List M.Rule} {n0 : Int} {xs : List Int} {m n : Nat} (h1 : M.RulesOk k rs = true) (h2 : M.TableOk n0 xs = true) (h : MapOk k rs n0 xs m n) : M.isMapped k rs n0 xs = decide (n ^ m ≤ 4096) := by
  unfold M.isMapped
  rw [h1, h2, h.hk, h.hn]
  simp
theorem mapped_ok {k : Int} {rs : List M.Rule} {n0 : Int} {xs : List Int} (h : M.isMapped k rs n0 xs = true) : M.RulesOk k rs = true ∧ M.TableOk n0 xs = true := by
  unfold M.isMapped at h
  rw [Bool.and_eq_true, Bool.and_eq_true] at h
  exact ⟨h.1, h.2.1⟩
theorem wrap_mul {a b : Nat} (h : a * b ≤ 2560000) : IntKind.i64.wrap ((a : Int) * (b : Int)) = ((a * b : Nat) : Int) := by
  have e : (a : Int) * (b : Int) = ((a * b : Nat) : Int) := by simp
  rw [e]
  exact IntWalk.i64_in _ (by omega)
set_option maxRecDepth 100000 in
set_option maxHeartbeats 2000000 in
theorem isMapped_c (k : Int) (D : Option Addr) (e0 : Nat) (rs : List M.Rule) (n0 : Int) (A : Option Addr) (c : Nat) (xs : List Int) (w : World) (hD : Rd w 2 D rs.length (ruls rs)) (hA : Rd w 1 A xs.length (ints xs)) (hl : rs.length ≤ 1048576) (hs : ∀ r ∈ rs, r.left.length ≤ 1048576 ∧ r.right.length ≤ 1048576) (hl1 : xs.length ≤ 1048576) :
    Calls Try.prog 78 #[.agg #[.int .i64 k, .slice D rs.length e0], .agg #[.int .i64 n0, .slice A xs.length c]] w fun e w' => e = .returned (.bool (M.isMapped k rs n0 xs)) ∧ Below w.heap.size w w' := by
  have bt := below_two w
  have HA := Lib.hid hA
  have HD := Lib.hid hD
  have h1 := Lib.hid (fun W h => impl_RulesOk_c k D e0 rs W h hl hs)
  have h2 := Lib.hid (fun W h => impl_TableOk_c n0 A c xs W h hl1)
  clear hA hD
  obtain ⟨x, hx⟩ : ∃ x, x = M.RulesOk k rs := ⟨_, rfl⟩
  rw [← hx] at h1
  cases x
  case false =>
    rw [mapped_no (Or.inl hx.symm)]
    clear hx
    go_enter Try.func78, Try.ntmps78
    go_wp2_with fail
    refine (h1.out _ (HD.out.below (bt _ _))).mono ?_
    rintro e w1 ⟨rfl, hb⟩
    go_wp2_with fail
    go_ret
    exact ⟨rfl, below_alloc2 hb⟩
  case true =>
  obtain ⟨y, hy⟩ : ∃ y, y = M.TableOk n0 xs := ⟨_, rfl⟩
  rw [← hy] at h2
  cases y
  case false =>
    rw [mapped_no (Or.inr hy.symm)]
    clear hx hy
    go_enter Try.func78, Try.ntmps78
    go_wp2_with fail
    refine (h1.out _ (HD.out.below (bt _ _))).mono ?_
    rintro e w1 ⟨rfl, hb⟩
    have b0 : w1.cell? ⟨w.heap.size + 1, 0, none⟩ = some (.int .i64 n0) := cellKeep hb (by simp [go_sem])
    have b1 : w1.cell? ⟨w.heap.size + 1, 1, none⟩ = some (.slice A xs.length c) := cellKeep hb (by simp [go_sem])
    have HW := Lib.hid (below_alloc2 hb)
    clear hb
    go_wp2_with fail
    refine (h2.out _ (HA.out.below HW.out)).mono ?_
    rintro e w2 ⟨rfl, hb⟩
    go_wp2_with fail
    go_ret
    exact ⟨rfl, HW.out.trans (hb.mono HW.out.size)⟩
  case true =>
  obtain ⟨m, n, hmo⟩ := maps_of hx.symm hy.symm hs
  rw [mapped_yes hx.symm hy.symm hmo]
  obtain ⟨rfl, rfl, hm4, hn40, hlen, hinp, hfit⟩ := hmo
  clear hlen hinp hfit
  have HPW := Lib.hid (fun j (hj : j ≤ m) => pow_le40 hn40.2 (show j ≤ 4 by omega))
  have HPS := Lib.hid (fun j => Nat.pow_succ (m := j) (n := n))
  have HP0 := Lib.hid (show n ^ 0 = 1 from rfl)
  clear hx hy hs hl hl1
  generalize xs.length = xl at *
  generalize rs.length = rl at *
  go_enter Try.func78, Try.ntmps78
  go_wp2_with fail
  refine (h1.out _ (HD.out.below (bt _ _))).mono ?_
  rintro e w1 ⟨rfl, hb⟩
  have a0 : w1.cell? ⟨w.heap.size, 0, none⟩ = some (.int .i64 (m : Int)) := cellKeep hb (by simp [go_sem])
  have b0 : w1.cell? ⟨w.heap.size + 1, 0, none⟩ = some (.int .i64 (n : Int)) := cellKeep hb (by simp [go_sem])
  have b1 : w1.cell? ⟨w.heap.size + 1, 1, none⟩ = some (.slice A xl c) := cellKeep hb (by simp [go_sem])
  have HW := Lib.hid (below_alloc2 hb)
  clear hb
  go_wp2_with fail
  refine (h2.out _ (HA.out.below HW.out)).mono ?_
  rintro e w2 ⟨rfl, hb⟩
  have A0 := Lib.hid (cellKeep hb a0)
  have B0 := Lib.hid (cellKeep hb b0)
  have T2 := Lib.hid (HW.out.trans (hb.mono HW.out.size))
  have c0 := A0.out
  clear hb a0 b0 b1
  go_wp2_with fail
  clear c0
  go_loop [5, 16] (fun s z => ∃ j : Nat, j ≤ m ∧ z = .int .i64 (j : Int) ∧ s = .int .i64 ((n ^ j : Nat) : Int)) (fun _ z => m - (intOf z).toNat)
  case atStart => exact ⟨0, by omega, rfl, by rw [HP0.out]; rfl⟩
  case round =>
    obtain ⟨j, hj, rfl, rfl⟩ := hrel
    by_cases hlt : j < m
    case neg =>
      obtain rfl : j = m := by omega
      obtain ⟨v, hv⟩ : ∃ v, v = n ^ j := ⟨_, rfl⟩
      have HDc := Lib.hid (show decide ((v : Int) ≤ 4096) = decide (n ^ j ≤ 4096) from decide_eq_decide.2 (by rw [← hv]; omega))
      rw [← hv]
      clear hv
      go_wp2_with fail
      go_ret
      exact ⟨ret_bool HDc.out, T2.out⟩
    case pos =>
      have hp := HPW.out (j + 1) hlt
      have HS := Lib.hid (HPS.out j)
      rw [HS.out] at hp
      have hwm := wrap_mul hp
      have b0 := B0.out
      generalize n ^ j = v at *
      go_wp2_with fail
      go_round
      case rel => exact ⟨j + 1, by omega, by go_num, by rw [HS.out]; first | rfl | (simp)⟩
      case measure => simp [intOf] <;> omega
def M.listsOf (k : Int) (rs : List M.Rule) (n0 : Int) (xs : List Int) : Int := if M.isMapped k rs n0 xs = true then ((n0.toNat ^ k.toNat : Nat) : Int) else -1
theorem lists_no {k : Int} {rs : List M.Rule} {n0 : Int} {xs : List Int} (h : M.isMapped k rs n0 xs = false) : M.listsOf k rs n0 xs = -1 := if_neg (by rw [h]; simp)
theorem lists_yes {k : Int} {rs : List M.Rule} {n0 : Int} {xs : List Int} {m n : Nat} (h1 : M.RulesOk k rs = true) (h2 : M.TableOk n0 xs = true) (h : MapOk k rs n0 xs m n) : M.listsOf k rs n0 xs = if n ^ m ≤ 4096 then ((n ^ m : Nat) : Int) else -1 := by
  unfold M.listsOf
  rw [mapped_yes h1 h2 h, h.hk, h.hn]
  by_cases h4 : n ^ m ≤ 4096
  · rw [if_pos (decide_eq_true h4), if_pos h4]; rfl
  · rw [if_neg (by rw [decide_eq_false h4]; simp), if_neg h4]
theorem pow_more {n j m : Nat} (hn : 1 ≤ n) (h : 4096 < n ^ j) (hj : j ≤ m) : ¬ n ^ m ≤ 4096 := by
  have := Nat.pow_le_pow_right (show 0 < n by omega) hj
  omega
set_option maxRecDepth 100000 in
set_option maxHeartbeats 2000000 in
theorem l11Lists_c (k : Int) (D : Option Addr) (e0 : Nat) (rs : List M.Rule) (n0 : Int) (A : Option Addr) (c : Nat) (xs : List Int) (w : World) (hD : Rd w 2 D rs.length (ruls rs)) (hA : Rd w 1 A xs.length (ints xs)) (hl : rs.length ≤ 1048576) (hs : ∀ r ∈ rs, r.left.length ≤ 1048576 ∧ r.right.length ≤ 1048576) (hl1 : xs.length ≤ 1048576) :
    Calls Try.prog 75 #[.agg #[.int .i64 k, .slice D rs.length e0], .agg #[.int .i64 n0, .slice A xs.length c]] w fun e w' => e = .returned (.int .i64 (M.listsOf k rs n0 xs)) ∧ Below w.heap.size w w' := by
  have bt := below_two w
  have HA := Lib.hid hA
  have HD := Lib.hid hD
  have h1 := Lib.hid (fun W h => spec_RulesOk_c k D e0 rs W h hl hs)
  have h2 := Lib.hid (fun W h => spec_TableOk_c n0 A c xs W h hl1)
  clear hA hD
  obtain ⟨x, hx⟩ : ∃ x, x = M.RulesOk k rs := ⟨_, rfl⟩
  rw [← hx] at h1
  cases x
  case false =>
    rw [lists_no (mapped_no (Or.inl hx.symm))]
    clear hx
    go_enter Try.func75, Try.ntmps75
    go_wp2_with fail
    refine (h1.out _ (HD.out.below (bt _ _))).mono ?_
    rintro e w1 ⟨rfl, hb⟩
    go_wp2_with fail
    go_ret
    exact ⟨rfl, below_alloc2 hb⟩
  case true =>
  obtain ⟨y, hy⟩ : ∃ y, y = M.TableOk n0 xs := ⟨_, rfl⟩
  rw [← hy] at h2
  cases y
  case false =>
    rw [lists_no (mapped_no (Or.inr hy.symm))]
    clear hx hy
    go_enter Try.func75, Try.ntmps75
    go_wp2_with fail
    refine (h1.out _ (HD.out.below (bt _ _))).mono ?_
    rintro e w1 ⟨rfl, hb⟩
    have b0 : w1.cell? ⟨w.heap.size + 1, 0, none⟩ = some (.int .i64 n0) := cellKeep hb (by simp [go_sem])
    have b1 : w1.cell? ⟨w.heap.size + 1, 1, none⟩ = some (.slice A xs.length c) := cellKeep hb (by simp [go_sem])
    have HW := Lib.hid (below_alloc2 hb)
    clear hb
    go_wp2_with fail
    refine (h2.out _ (HA.out.below HW.out)).mono ?_
    rintro e w2 ⟨rfl, hb⟩
    go_wp2_with fail
    go_ret
    exact ⟨rfl, HW.out.trans (hb.mono HW.out.size)⟩
  case true =>
  obtain ⟨m, n, hmo⟩ := maps_of hx.symm hy.symm hs
  rw [lists_yes hx.symm hy.symm hmo]
  obtain ⟨res, hres⟩ : ∃ res : Int, res = if n ^ m ≤ 4096 then ((n ^ m : Nat) : Int) else -1 := ⟨_, rfl⟩
  rw [← hres]
  obtain ⟨rfl, rfl, hm4, hn40, hlen, hinp, hfit⟩ := hmo
  clear hlen hinp hfit
  have HPW := Lib.hid (fun j (hj : j ≤ m) => pow_le40 hn40.2 (show j ≤ 4 by omega))
  have HPS := Lib.hid (fun j => Nat.pow_succ (m := j) (n := n))
  have HP0 := Lib.hid (show n ^ 0 = 1 from rfl)
  have HIF := Lib.hid (fun j (h : 4096 < n ^ j) (hj : j ≤ m) => show res = -1 from hres.trans (if_neg (pow_more hn40.1 h hj)))
  have HIP := Lib.hid (fun (h : n ^ m ≤ 4096) => show res = ((n ^ m : Nat) : Int) from hres.trans (if_pos h))
  clear hx hy hs hl hl1 hres
  generalize xs.length = xl at *
  generalize rs.length = rl at *
  go_enter Try.func75, Try.ntmps75
  go_wp2_with fail
  refine (h1.out _ (HD.out.below (bt _ _))).mono ?_
  rintro e w1 ⟨rfl, hb⟩
  have a0 : w1.cell? ⟨w.heap.size, 0, none⟩ = some (.int .i64 (m : Int)) := cellKeep hb (by simp [go_sem])
  have b0 : w1.cell? ⟨w.heap.size + 1, 0, none⟩ = some (.int .i64 (n : Int)) := cellKeep hb (by simp [go_sem])
  have b1 : w1.cell? ⟨w.heap.size + 1, 1, none⟩ = some (.slice A xl c) := cellKeep hb (by simp [go_sem])
  have HW := Lib.hid (below_alloc2 hb)
  clear hb
  go_wp2_with fail
  refine (h2.out _ (HA.out.below HW.out)).mono ?_
  rintro e w2 ⟨rfl, hb⟩
  have A0 := Lib.hid (cellKeep hb a0)
  have B0 := Lib.hid (cellKeep hb b0)
  have T2 := Lib.hid (HW.out.trans (hb.mono HW.out.size))
  clear hb a0 b0 b1
  go_wp2_with fail
  go_loop [5, 6] (fun s z => ∃ j : Nat, j ≤ m ∧ z = .int .i64 (j : Int) ∧ s = .int .i64 ((n ^ j : Nat) : Int) ∧ n ^ j ≤ 4096) (fun _ z => m - (intOf z).toNat)
  case atStart => exact ⟨0, by omega, rfl, by rw [HP0.out]; rfl, by rw [HP0.out]; omega⟩
  case round =>
    obtain ⟨j, hj, rfl, rfl, hv4⟩ := hrel
    have a0 := A0.out
    by_cases hlt : j < m
    case neg =>
      obtain rfl : j = m := by omega
      have HE := Lib.hid (HIP.out hv4)
      obtain ⟨v, hv⟩ : ∃ v, v = n ^ j := ⟨_, rfl⟩
      have HV := Lib.hid hv
      rw [← hv]
      clear hv hv4
      go_wp2_with fail
      go_ret
      exact ⟨ret_int (by rw [HE.out, ← HV.out]), T2.out⟩
    case pos =>
      have hp := HPW.out (j + 1) hlt
      have HS := Lib.hid (HPS.out j)
      rw [HS.out] at hp
      have hwm := wrap_mul hp
      have b0 := B0.out
      by_cases hbig : 4096 < n ^ j * n
      · have HE := Lib.hid (HIF.out (j + 1) (by rw [HS.out]; exact hbig) hlt)
        have hbi : (4096 : Int) < ((n ^ j * n : Nat) : Int) := by omega
        generalize n ^ j = v at *
        go_wp2_with fail
        go_ret
        exact ⟨ret_int HE.out.symm, T2.out⟩
      · have HL := Lib.hid (show n ^ (j + 1) ≤ 4096 by rw [HS.out]; omega)
        have hbi : ¬ (4096 : Int) < ((n ^ j * n : Nat) : Int) := by omega
        generalize n ^ j = v at *
        go_wp2_with fail
        go_round
        case rel => exact ⟨j + 1, by omega, by go_num, by rw [HS.out]; first | rfl | (simp), HL.out⟩
        case measure => simp [intOf] <;> omega
theorem imgs_get {n : Nat} : ∀ {m i q : Nat}, q < m → (M.imgs n m i)[m - 1 - q]? = some ((i / n ^ q % n : Nat) : Int)
  | 0, i, q, h => by omega
  | m + 1, i, 0, h => by
    rw [M.imgs, List.getElem?_append_right (by rw [imgs_len]; omega), imgs_len, show m + 1 - 1 - 0 - m = 0 by omega, Nat.pow_zero, Nat.div_one]
    rfl
  | m + 1, i, q + 1, h => by
    rw [M.imgs, List.getElem?_append_left (by rw [imgs_len]; omega), show m + 1 - 1 - (q + 1) = m - 1 - q by omega, imgs_get (by omega), Nat.div_div_eq_div_mul, Nat.pow_succ, Nat.mul_comm]
/-- The list of which the first p places are not filled yet. -/
def M.unfilled (L : List Int) (p : Nat) : List Int := List.replicate p 0 ++ L.drop p
theorem unfilled_set {L : List Int} {p : Nat} {v : Int} (h : L[p]? = some v) : (M.unfilled L (p + 1)).set p v = M.unfilled L p := by
  obtain ⟨hp, rfl⟩ := List.getElem?_eq_some_iff.1 h
  unfold M.unfilled
  rw [List.replicate_succ', List.append_assoc, List.set_append_right _ _ (by simp), List.length_replicate, Nat.sub_self, List.drop_eq_getElem_cons hp]
  rfl
theorem wrap_small {x : Nat} (h : x ≤ 4096) : wrap64 (x : Int) = (x : Int) := IntWalk.wrap64_in _ (by omega)
theorem make_ints {ops : Array Oper} {rest : List Oper} {o : Oper} {a : Act} {Q : Exit → Act → World → Prop} {w : World} (hgd : o.guard = none) (l : Operand) (ho : o.op = .makeSlice 35 l l)
    {kl : IntKind} {n : Nat} (hl : a.eval l = .int kl (n : Int)) (hn : n ≤ 1048576)
    (h : ∀ w', Own w' w.heap.size 1 (some ⟨w.heap.size, 0, none⟩) n (ints (List.replicate n 0)) → Below w.heap.size w w' → wpList Try.prog ops Q rest (a.put o.dst (.slice (some ⟨w.heap.size, 0, none⟩) n n)) w') : wpList Try.prog ops Q (o :: rest) a w := by
  obtain ⟨i, z, hi, hz, hsz, hby, hzs⟩ := slInt.info
  have hz0 : z = .int .i64 0 := by
    have h1 : ((Try.prog.info? 3).bind (·.zero)) = some (.int .i64 0) := by kernel_rfl
    rw [hi] at h1
    simp only [Option.bind_some] at h1
    rw [hz] at h1
    injection h1
  subst hz0
  refine wpList_make_full w hgd l l _ ho w.heap.size _ i _ 1 slInt.und hi hz hsz kl kl n n n hl hl rfl rfl ?_ ?_ (Nat.le_refl _) ?_
  · have := Nat.mul_le_mul hby hn
    omega
  · simp only [maxLen]; omega
  · intro w' hown hg
    rw [zerosInt] at hown
    exact h w' (Own.of_row hown) ((Below.refl _ _).grown hg (Nat.le_refl _) (by simp))
set_option maxRecDepth 100000 in
set_option maxHeartbeats 2000000 in
theorem l11Images_c (m : Nat) (D : Option Addr) (rl e0 : Nat) (n : Nat) (A : Option Addr) (xl c : Nat) (i : Nat) (w : World) (hm : 1 ≤ m ∧ m ≤ 4) (hn : 1 ≤ n ∧ n ≤ 40) (hi : i ≤ 4096) :
    Calls Try.prog 77 #[.agg #[.int .i64 (m : Int), .slice D rl e0], .agg #[.int .i64 (n : Int), .slice A xl c], .int .i64 (i : Int)] w (RetRd (fun A c => .slice A m c) 1 m (ints (M.imgs n m i)) w) := by
  have bt := below_two w
  have HL := Lib.hid (imgs_len n m i)
  have HGT := Lib.hid (fun q (h : q < m) => imgs_get (n := n) (i := i) h)
  have HDV := Lib.hid (fun q => show i / n ^ q / n = i / n ^ (q + 1) by rw [Nat.div_div_eq_div_mul, Nat.pow_succ])
  have HLE := Lib.hid (fun q => show i / n ^ q ≤ 4096 from Nat.le_trans (Nat.div_le_self _ _) hi)
  have HZ := Lib.hid (show M.unfilled (M.imgs n m i) 0 = M.imgs n m i by simp [M.unfilled])
  have HM0 := Lib.hid (show M.unfilled (M.imgs n m i) m = List.replicate m 0 by unfold M.unfilled; rw [List.drop_eq_nil_of_le (by rw [HL.out]; omega), List.append_nil])
  have HST := Lib.hid (fun p v (h : (M.imgs n m i)[p]? = some v) => unfilled_set h)
  generalize M.imgs n m i = L at *
  have X0 := Lib.hid (show ((w.alloc (.cells #[.int .i64 (m : Int), .slice D rl e0] 28)).alloc (.cells #[.int .i64 (n : Int), .slice A xl c] 40)).cell? ⟨w.heap.size, 0, none⟩ = some (.int .i64 (m : Int)) by simp [go_sem])
  have X1 := Lib.hid (show ((w.alloc (.cells #[.int .i64 (m : Int), .slice D rl e0] 28)).alloc (.cells #[.int .i64 (n : Int), .slice A xl c] 40)).cell? ⟨w.heap.size + 1, 0, none⟩ = some (.int .i64 (n : Int)) by simp [go_sem])
  have BT := Lib.hid (bt (.cells #[.int .i64 (m : Int), .slice D rl e0] 28) (.cells #[.int .i64 (n : Int), .slice A xl c] 40))
  clear bt
  go_enter Try.func77, Try.ntmps77
  go_wp2_with (at_make; refine make_ints rfl _ rfl rfl (by omega) ?_; intro w1 ho1 hb1; have c0 := cellKeep hb1 X0.out)
  have C1 := Lib.hid (cellKeep hb1 X1.out)
  have T1 := Lib.hid (BT.out.trans (hb1.mono BT.out.size))
  have O1 := Lib.hid (show Own w1 (w.heap.size + 1 + 1) 1 (some ⟨w.heap.size + 1 + 1, 0, none⟩) m (ints (M.unfilled L m)) by rw [HM0.out]; simpa using ho1)
  obtain ⟨g, hg⟩ : ∃ g, g = w.heap.size := ⟨_, rfl⟩
  have HG := Lib.hid hg
  rw [← hg] at O1 C1 ⊢
  clear ho1 hb1 c0 hg X0 X1
  obtain ⟨r, hr⟩ : ∃ r, r = g + 1 + 1 := ⟨_, rfl⟩
  have HR := Lib.hid hr
  rw [← hr] at O1 ⊢
  have hgr : g + 1 < r := by omega
  clear hr
  go_loopw [2, 8] (fun v z wr => ∃ p q : Nat, p + q = m ∧ z = .int .i64 ((p : Int) - 1) ∧ v = .int .i64 ((i / n ^ q : Nat) : Int) ∧ Own wr r 1 (some ⟨r, 0, none⟩) m (ints (M.unfilled L p)) ∧ wr.cell? ⟨g + 1, 0, none⟩ = some (.int .i64 (n : Int)) ∧ Below w.heap.size w wr) (fun _ z _ => (intOf z + 1).toNat)
  case atStart => exact ⟨m, 0, by omega, by go_num, by simp, O1.out, C1.out, T1.out⟩
  case round =>
    obtain ⟨p, q, hpq, rfl, rfl, ho, hc, hb⟩ := hrel
    have HO := Lib.hid ho
    have HB := Lib.hid hb
    have HC := Lib.hid hc
    clear ho hb hc
    by_cases hp0 : p = 0
    case pos =>
      subst hp0
      have hz0 : ((0 : Nat) : Int) - 1 = -1 := by omega
      rw [hz0]
      clear hz0
      go_wp2_with fail
      go_ret
      have hO := HO.out
      rw [HZ.out] at hO
      exact ⟨_, _, rfl, hO.mono (by have := HG.out; have := HR.out; omega), HB.out⟩
    case neg =>
      obtain ⟨p', rfl⟩ : ∃ p', p = p' + 1 := ⟨p - 1, by omega⟩
      have hatq : ((p' + 1 : Nat) : Int) - 1 = (p' : Int) := by omega
      rw [hatq]
      clear hatq hp0
      have hq : q < m := by omega
      have ST := Lib.hid (HST.out p' _ (by have h := HGT.out q hq; rw [show m - 1 - q = p' by omega] at h; exact h))
      have DV := Lib.hid (HDV.out q)
      have hle := HLE.out q
      generalize i / n ^ q = v at *
      have hpm : (p' : Int) < (m : Int) := by omega
      have cB := (HO.out.at0 (by omega)).2.1 p' _ (ints_at (zs := M.unfilled L (p' + 1)) (k := p') (by have := HO.out.1; rw [ints_len] at this; omega))
      have fB : wr.frozen? ⟨r, p', none⟩ = false := (HO.out.at0 (by omega)).2.2.1 p'
      have HSt := Lib.hid (fun u => (HO.out.at0 (by omega)).2.2.2 p' u)
      have c1 := HC.out
      have hmod : (v : Int) % (n : Int) = ((v % n : Nat) : Int) := by omega
      have hdiv : (v : Int) / (n : Int) = ((v / n : Nat) : Int) := by omega
      have HMo := Lib.hid hmod
      have HDi := Lib.hid hdiv
      have HWV := Lib.hid (show wrap64 ((v / n : Nat) : Int) = ((v / n : Nat) : Int) from wrap_small (Nat.le_trans (Nat.div_le_self v n) hle))
      have HSI := Lib.hid (show ∀ (l : List Int) (j : Nat) (v : Int), (ints l).set j (.int .i64 v) = ints (l.set j v) from fun l j v => by simp [ints, List.map_set])
      clear hmod hdiv
      generalize (M.unfilled L (p' + 1))[p']'_ = old at *
      go_wp2_with fail
      go_roundw
      case rel =>
        refine ⟨p', q + 1, by omega, by go_num, by rw [← DV.out, HDi.out, HWV.out], ?_, (cell_set_ne _ (Or.inl (by omega))).trans HC.out, HB.out.setCell (by have := HG.out; simp; omega) _⟩
        rw [← ST.out, ← HSI.out]
        first | exact HSt.out _ | (rw [← HMo.out]; exact HSt.out _)
      case measure => simp [intOf] <;> omega
end Go.Proofs.Ytlohpphmamapeaa
