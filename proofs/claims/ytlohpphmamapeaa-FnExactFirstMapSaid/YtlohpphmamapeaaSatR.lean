/-
  Contracts of satisfies, of the reference's l11Fits and of SatisfiesRules.
  Conditions: at most 2^20 entries.
-/
import Derived.Test.YtlohpphmamapeaaSat
import Derived.Test.YtlohpphmamapeaaOkC2
namespace Go.Proofs.Ytlohpphmamapeaa
open Go.RowKit
set_option linter.unusedVariables false

set_option maxRecDepth 100000 in
set_option maxHeartbeats 4000000 in
theorem satisfies_c (n : Nat) (A : Option Addr) (c : Nat) (xs : List Int) (B : Option Addr) (d : Nat) (ys : List Int) (hn1 : 1 ≤ n) (hn : n ≤ 40) (hl0 : xs.length = n * n) (hin : M.InP n xs) (hy : ys.length ≤ 4) (hyin : M.InP n ys) (k : Int) (D : Option Addr) (e0 : Nat) (rs : List M.Rule) (w : World) (hA : Rd w 1 A xs.length (ints xs)) (hB : Rd w 1 B ys.length (ints ys)) (hD : Rd w 2 D rs.length (ruls rs)) (hl : rs.length ≤ 1048576) (hs : ∀ r ∈ rs, M.Fit ys.length r) :
    Calls Try.prog 80 #[.agg #[.int .i64 n, .slice A xs.length c], .agg #[.int .i64 k, .slice D rs.length e0], .slice B ys.length d] w fun e w' => e = .returned (.bool (!rs.any (M.misfit n xs ys))) ∧ Below w.heap.size w w' := by
  have HA := Lib.hid hA
  have HB := Lib.hid hB
  have HD := Lib.hid hD
  have h := Lib.hid (fun b0 b1 W h0 hD => ContainsFuncSatisfies1_c n A c xs B d ys hn1 hn hl0 hin hy hyin b0 b1 D e0 rs W h0 hD hl hs)
  have hmf : ∀ (fn : Fn) (first cap : Array Value) (w : World), (Instr.makeFunc fn first cap).run Try.prog w = .ok (.func fn first cap) w := fun _ _ _ _ => rfl
  have hp := fun (o p q : Obj) => (((Below.refl w.heap.size w).alloc (Nat.le_refl _) o).alloc (by simp) p).alloc (by simp; omega) q
  clear hA hB hD hs hin hyin hl0
  generalize rs.any (M.misfit n xs ys) = v at *
  go_enter Try.func80, Try.ntmps80
  go_wp2_with fail
  refine (h.out _ _ _ ⟨by simp [go_sem], by simp [go_sem], by simp [go_sem], HA.out.below (hp _ _ _), HB.out.below (hp _ _ _)⟩ (HD.out.below (hp _ _ _))).mono ?_
  rintro e w1 ⟨rfl, hb⟩
  go_wp2_with fail
  go_ret
  exact ⟨rfl, below_alloc1 (below_alloc2 hb)⟩
set_option maxRecDepth 100000 in
set_option maxHeartbeats 4000000 in
theorem l11Fits_c (n : Nat) (A : Option Addr) (c : Nat) (xs : List Int) (B : Option Addr) (d : Nat) (ys : List Int) (hn1 : 1 ≤ n) (hn : n ≤ 40) (hl0 : xs.length = n * n) (hin : M.InP n xs) (hy : ys.length ≤ 4) (hyin : M.InP n ys) (k : Int) (D : Option Addr) (e0 : Nat) (rs : List M.Rule) (w : World) (hA : Rd w 1 A xs.length (ints xs)) (hB : Rd w 1 B ys.length (ints ys)) (hD : Rd w 2 D rs.length (ruls rs)) (hl : rs.length ≤ 1048576) (hs : ∀ r ∈ rs, M.Fit ys.length r) :
    Calls Try.prog 76 #[.agg #[.int .i64 k, .slice D rs.length e0], .agg #[.int .i64 n, .slice A xs.length c], .slice B ys.length d] w fun e w' => e = .returned (.bool (!rs.any (M.misfit n xs ys))) ∧ Below w.heap.size w w' := by
  have HA := Lib.hid hA
  have HB := Lib.hid hB
  have HD := Lib.hid hD
  have HS := Lib.hid hs
  have HV := Lib.hid (fun l W h h' hlet hll => l11Value_c n A c xs B d ys l W h h' hn1 hn hl0 hin hy hyin hlet hll)
  obtain ⟨q, hq⟩ : ∃ q, q = rs.any (M.misfit n xs ys) := ⟨_, rfl⟩
  rw [← hq]
  have HQ := Lib.hid hq
  have HL := Lib.hid hl
  clear hA hB hD hs hin hyin hq hl hl0
  go_enter Try.func76, Try.ntmps76
  go_wp2
  go_loopw [12] (fun z wr => ∃ i : Nat, i ≤ rs.length ∧ z = .int .i64 i ∧ (rs.drop i).any (M.misfit n xs ys) = q ∧ wr.cell? ⟨w.heap.size + 1, 0, none⟩ = some (.int .i64 n) ∧ wr.cell? ⟨w.heap.size + 1, 1, none⟩ = some (.slice A xs.length c) ∧ Below w.heap.size w wr) (fun z _ => rs.length - (intOf z).toNat)
  case atStart => exact ⟨0, by omega, rfl, by rw [List.drop_zero, HQ.out], by simp [go_sem], by simp [go_sem], ((Below.refl w.heap.size w).alloc (Nat.le_refl _) _).alloc (by simp) _⟩
  case round =>
    obtain ⟨i, hi, rfl, hf, c0, c1, hb⟩ := hrel
    have HF := Lib.hid hf
    have HW := Lib.hid hb
    have hlb := HL.out
    clear hf hb
    by_cases hlt : i < rs.length
    · obtain ⟨b, o, rfl, hz, hc1, hc2⟩ := (HD.out.below HW.out).ruleAt (k := i) hlt
      have hd : (rs.drop i).any (M.misfit n xs ys) = (M.misfit n xs ys rs[i] || (rs.drop (i + 1)).any (M.misfit n xs ys)) := by rw [List.drop_eq_getElem_cons hz, List.any_cons]
      have hfit := HS.out rs[i] (List.getElem_mem hz)
      have HF2 := Lib.hid (hd.symm.trans HF.out)
      clear hd
      generalize rs[i] = r at *
      obtain ⟨rl, rr⟩ := r
      obtain ⟨⟨hll, hlr⟩, hbl, hbr⟩ := hfit
      simp only at hc1 hc2 hll hlr hbl hbr
      unfold M.misfit at HF2
      simp only at HF2
      have k0 := allocKeep1 c0
      have k1 := allocKeep1 c1
      by_cases he : M.valFrom n xs ys 0 rl = M.valFrom n xs ys 0 rr
      case neg =>
        have he' : (M.valFrom n xs ys 0 rl != M.valFrom n xs ys 0 rr) = true := by rw [bne_iff_ne]; exact he
        have HNO := Lib.hid (show true = q by rw [← HF2.out, decide_eq_false he]; rfl)
        clear he HF2
        go_wp2_with fail
        go_region_held3 (fun w' => w'.cell? ⟨w.heap.size + 1, 0, none⟩ = some (.int .i64 n) ∧ w'.cell? ⟨w.heap.size + 1, 1, none⟩ = some (.slice A xs.length c) ∧ w'.cell? ⟨wr.heap.size, 0, none⟩ = some (.string ⟨rl.toArray⟩) ∧ w'.cell? ⟨wr.heap.size, 1, none⟩ = some (.string ⟨rr.toArray⟩) ∧ Below wr.heap.size wr w') (first | exact ⟨k0 _, k1 _, by simp [go_sem], by simp [go_sem], ((Below.refl _ _).alloc (Nat.le_refl _) _).drew⟩ | assumption | exact held4 (by assumption) hbt) (first | (go_simp; go_at_call 134; refine (HV.out _ _ ((HA.out.below HW.out).below (held4_below (by assumption))) ((HB.out.below HW.out).below (held4_below (by assumption))) (by assumption) (by assumption)).mono ?_; rintro e wt ⟨rfl, hbt⟩))
        all_goals
          have hh := held4_below (a := wr) (by assumption)
          go_wp2
          go_ret
          exact ⟨ret_bool (by rw [← HNO.out]; rfl), HW.out.trans (hh.mono HW.out.size)⟩
      case pos =>
        have he' : (M.valFrom n xs ys 0 rl != M.valFrom n xs ys 0 rr) = false := by rw [bne_eq_false_iff_eq]; exact he
        have HN := Lib.hid (show (rs.drop (i + 1)).any (M.misfit n xs ys) = q by rw [← HF2.out, decide_eq_true he]; rfl)
        clear he HF2
        go_wp2_with fail
        go_region_held3 (fun w' => w'.cell? ⟨w.heap.size + 1, 0, none⟩ = some (.int .i64 n) ∧ w'.cell? ⟨w.heap.size + 1, 1, none⟩ = some (.slice A xs.length c) ∧ w'.cell? ⟨wr.heap.size, 0, none⟩ = some (.string ⟨rl.toArray⟩) ∧ w'.cell? ⟨wr.heap.size, 1, none⟩ = some (.string ⟨rr.toArray⟩) ∧ Below wr.heap.size wr w') (first | exact ⟨k0 _, k1 _, by simp [go_sem], by simp [go_sem], ((Below.refl _ _).alloc (Nat.le_refl _) _).drew⟩ | assumption | exact held4 (by assumption) hbt) (first | (go_simp; go_at_call 134; refine (HV.out _ _ ((HA.out.below HW.out).below (held4_below (by assumption))) ((HB.out.below HW.out).below (held4_below (by assumption))) (by assumption) (by assumption)).mono ?_; rintro e wt ⟨rfl, hbt⟩))
        all_goals
          have hS : wt.cell? ⟨w.heap.size + 1, 0, none⟩ = some (.int .i64 n) ∧ wt.cell? ⟨w.heap.size + 1, 1, none⟩ = some (.slice A xs.length c) ∧ wt.cell? ⟨wr.heap.size, 0, none⟩ = some (.string ⟨rl.toArray⟩) ∧ wt.cell? ⟨wr.heap.size, 1, none⟩ = some (.string ⟨rr.toArray⟩) ∧ Below wr.heap.size wr wt := by assumption
          go_wp2
          go_roundw
          case rel => exact ⟨i + 1, by omega, by go_num, HN.out, hS.1, hS.2.1, HW.out.trans (hS.2.2.2.2.mono HW.out.size)⟩
          case measure => simp [intOf]; omega
    · have e : q = false := by have := HF.out; rw [List.drop_eq_nil_of_le (by omega)] at this; exact this.symm
      go_wp2
      go_ret
      exact ⟨ret_bool (by first | (rw [e]; rfl) | rfl), HW.out⟩

end Go.Proofs.Ytlohpphmamapeaa
