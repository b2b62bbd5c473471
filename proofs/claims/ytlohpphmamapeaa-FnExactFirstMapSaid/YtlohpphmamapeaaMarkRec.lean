/-
  The marking of slices of rules and of steps, and of systems.
  Conditions: at most 2^30 elements.
-/
import Derived.Test.YtlohpphmamapeaaMarkL
import Derived.Test.YtlohpphmamapeaaMarkC
import Derived.Test.YtlohpphmamapeaaCells
import Derived.Test.YtlohpphmamapeaaOpen2
namespace Go.Proofs.Ytlohpphmamapeaa
open Go.RowKit
set_option linter.unusedVariables false

theorem set_two {xs cs : List Value} {a b u v : Value} {k : Nat} (h : xs.length = k) : ((xs ++ a :: b :: cs).set k u).set (k + 1) v = xs ++ u :: v :: cs := by
  subst h
  rw [List.set_append_right _ _ (Nat.le_refl _), Nat.sub_self, List.set_cons_zero, List.set_append_right _ _ (by omega), show xs.length + 1 - xs.length = 1 by omega]
  rfl
theorem drop_two {cs : List Value} {k : Nat} (h : k + 1 < cs.length) : ∃ a b, cs.drop k = a :: b :: cs.drop (k + 2) := by
  refine ⟨cs[k], cs[k + 1], ?_⟩
  rw [List.drop_eq_getElem_cons (by omega), List.drop_eq_getElem_cons (i := k + 1) h]
def markedRule (q : Int) (n : Nat) : List M.Rule := (List.range n).map fun k => ⟨markT (q + ((k : Nat) : Int) * 2), markT (q + ((k : Nat) : Int) * 2 + 1)⟩
theorem markedRule_len (q : Int) (n : Nat) : (markedRule q n).length = n := by simp [markedRule]
theorem markedRule_succ (q : Int) (k : Nat) : markedRule q (k + 1) = markedRule q k ++ [⟨markT (q + ((k : Nat) : Int) * 2), markT (q + ((k : Nat) : Int) * 2 + 1)⟩] := by simp [markedRule, List.range_succ]
def markRuleTo (cs : List Value) (q : Int) (k : Nat) : List Value := ruls (markedRule q k) ++ cs.drop (k * 2)
theorem markRuleTo_set {cs : List Value} {q : Int} {k n : Nat} (h : k < n) (hl : cs.length = n * 2) : ((markRuleTo cs q k).set (k * 2) (.string ⟨(markT (q + (k : Int) * 2)).toArray⟩)).set (k * 2 + 1) (.string ⟨(markT (q + (k : Int) * 2 + 1)).toArray⟩) = markRuleTo cs q (k + 1) := by
  unfold markRuleTo
  obtain ⟨a, b, e⟩ := drop_two (cs := cs) (k := k * 2) (by omega)
  rw [e, set_two (by rw [ruls_len, markedRule_len]), markedRule_succ]
  simp [ruls, rule2, Nat.add_mul]
set_option maxRecDepth 100000 in
set_option maxHeartbeats 2000000 in
theorem markRuleS_c (A : Option Addr) (n c base : Nat) (cs : List Value) (q : Int) (w : World) (hA : Own w base 2 A n cs) (hn : n ≤ 13000000) (hq0 : 1 ≤ q) (hq : q ≤ 1048578) :
    Calls Try.prog 53 #[.slice A n c, .int .i64 q] w fun e w' => e = .returned (.int .i64 (q + (n : Int) * 2)) ∧ Own w' base 2 A n (ruls (markedRule q n)) ∧ w.grownBy w' (blk A n) := by
  have hlen : cs.length = n * 2 := by simpa using hA.1
  have HL := Lib.hid hlen
  have HA := Lib.hid hA
  clear hlen hA
  go_enter Try.func53, Try.ntmps53
  go_wp2
  go_loopw [1, 5] (fun q' i wr => ∃ k : Nat, k ≤ n ∧ i = .int .i64 k ∧ q' = .int .i64 (q + (k : Int) * 2) ∧ Own wr base 2 A n (markRuleTo cs q k) ∧ w.grownBy wr (blk A n)) (fun _ i _ => n - (intOf i).toNat)
  case atStart => exact ⟨0, by omega, rfl, by simp, by simpa [markRuleTo, markedRule, ruls] using HA.out, World.grownBy.refl w _⟩
  case round =>
    obtain ⟨k, hk, rfl, rfl, hown, hg⟩ := hrel
    by_cases hlt : k < n
    · have HO := Lib.hid hown
      have HG := Lib.hid hg
      have HSET := Lib.hid (markRuleTo_set (q := q) hlt HL.out)
      obtain ⟨b, o, rfl, _⟩ := HO.out.cells (by omega)
      have HROW := Lib.hid (show blk (some ⟨b, o, none⟩) n = some b by unfold blk; rw [if_neg (by omega)]; rfl)
      have hlm := HO.out.1
      generalize markRuleTo cs q k = pr at *
      clear hown hg
      go_wp2_with fail
      refine (markText_c _ _ (by omega) (by omega)).mono ?_
      rintro e w1 ⟨rfl, hb1⟩
      have HO1 := Lib.hid (HO.out.below hb1)
      have HB1 := Lib.hid hb1
      clear hb1
      obtain ⟨b', o', e1, _, _, hz, hf, hst⟩ := (HO1.out).cells (by omega)
      injection e1 with e1
      injection e1 with e1 e2
      subst e1 e2
      obtain ⟨u0a, hu0a⟩ : ∃ u, (w1).cell? ⟨b, o + k * 2, none⟩ = some u := ⟨_, hz (k * 2) _ (List.getElem?_eq_getElem (by first | omega | (simp; omega)))⟩
      have hf0a : (w1).frozen? ⟨b, o + k * 2, none⟩ = false := hf (k * 2)
      have H1 := Lib.hid (hst (k * 2) (.string ⟨(markT (q + (k : Int) * 2)).toArray⟩))
      clear hz hf hst
      go_wp2_with fail
      refine (markText_c _ _ (by omega) (by omega)).mono ?_
      rintro e w2 ⟨rfl, hb2⟩
      have HO2 := Lib.hid (H1.out.1.below hb2)
      have HB2 := Lib.hid hb2
      clear hb2
      obtain ⟨b', o', e1, _, _, hz, hf, hst⟩ := (HO2.out).cells (by omega)
      injection e1 with e1
      injection e1 with e1 e2
      subst e1 e2
      obtain ⟨u1b, hu1b⟩ : ∃ u, (w2).cell? ⟨b, o + k * 2 + 1, none⟩ = some u := ⟨_, hz (k * 2 + 1) _ (List.getElem?_eq_getElem (by first | omega | (simp; omega)))⟩
      have hf1b : (w2).frozen? ⟨b, o + k * 2 + 1, none⟩ = false := hf (k * 2 + 1)
      have H2 := Lib.hid (hst (k * 2 + 1) (.string ⟨(markT (q + (k : Int) * 2 + 1)).toArray⟩))
      clear hz hf hst
      go_wp2_with fail
      go_roundw
      case rel => exact ⟨k + 1, by omega, by go_num, by go_num, by rw [← HSET.out]; exact H2.out.1, (HG.out.trans (grown_of_below HB1.out _)).trans (by rw [HROW.out]; exact (H1.out.2.trans (grown_of_below HB2.out _)).trans H2.out.2)⟩
      case measure => simp [intOf] <;> omega
    · obtain rfl : k = n := by omega
      have HO := Lib.hid hown
      have HG := Lib.hid hg
      clear hown hg
      go_wp2
      go_ret
      exact ⟨rfl, by have h := HO.out; unfold markRuleTo at h; rw [List.drop_of_length_le (by have := HL.out; omega), List.append_nil] at h; exact h, HG.out⟩
theorem markedRule_at (q : Int) (n k : Nat) (h : k < (markedRule q n).length) : (markedRule q n)[k] = ⟨markT (q + (k : Int) * 2), markT (q + (k : Int) * 2 + 1)⟩ := by simp [markedRule]
set_option maxRecDepth 100000 in
set_option maxHeartbeats 2000000 in
theorem heldRuleS_c (A : Option Addr) (n c : Nat) (q : Int) (w : World) (hA : Rd w 2 A n (ruls (markedRule q n))) (hn : n ≤ 13000000) (hq0 : 1 ≤ q) (hq : q ≤ 1048578) :
    Calls Try.prog 66 #[.slice A n c, .int .i64 q] w fun e w' => e = .returned (.int .i64 (q + (n : Int) * 2)) ∧ Below w.heap.size w w' := by
  have HA := Lib.hid hA
  clear hA
  go_enter Try.func66, Try.ntmps66
  go_wp2
  go_loopw [1, 5] (fun q' i wr => ∃ k : Nat, k ≤ n ∧ i = .int .i64 k ∧ q' = .int .i64 (q + (k : Int) * 2) ∧ Below w.heap.size w wr) (fun _ i _ => n - (intOf i).toNat)
  case atStart => exact ⟨0, by omega, rfl, by simp, Below.refl _ _⟩
  case round =>
    obtain ⟨k, hk, rfl, rfl, hb⟩ := hrel
    have HB := Lib.hid hb
    clear hb
    by_cases hlt : k < n
    · obtain ⟨b, o, rfl, hz, hc1, hc2⟩ := (HA.out.below HB.out).ruleAt hlt
      rw [markedRule_at] at hc1 hc2
      simp only at hc1 hc2
      have HC1 := Lib.hid hc1
      have HC2 := Lib.hid hc2
      have HM1 := Lib.hid (fun W => markText_c (q + (k : Int) * 2) W (by omega) (by omega))
      have HM2 := Lib.hid (fun W => markText_c (q + (k : Int) * 2 + 1) W (by omega) (by omega))
      go_wp2_with fail
      go_region_with (go_at_call 111; refine (HM1.out _).mono ?_; rintro e w1 ⟨rfl, hb1⟩; have hd1 := cellKeep hb1 HC1.out)
      all_goals
        have HB1 := Lib.hid ((HB.out.drew).trans (hb1.mono HB.out.size))
        have he2 := cellKeep hb1 HC2.out
        have HE2 := Lib.hid he2
        clear hb1
        go_wp2_with fail
        go_region_with (go_at_call 111; refine (HM2.out _).mono ?_; rintro e w2 ⟨rfl, hb2⟩; have hd2 := cellKeep hb2 HE2.out)
        all_goals
          go_wp2
          go_roundw
          case rel => exact ⟨k + 1, by omega, by go_num, by go_num, (HB1.out.drew).trans (hb2.mono HB1.out.size)⟩
          case measure => simp [intOf] <;> omega
    · obtain rfl : k = n := by omega
      go_wp2
      go_ret
      exact ⟨rfl, HB.out⟩
set_option maxRecDepth 100000 in
set_option maxHeartbeats 1000000 in
theorem markSystem_c (k : Int) (A : Option Addr) (n c base : Nat) (cs : List Value) (q : Int) (w : World) (hA : Own w base 2 A n cs) (hn : n ≤ 13000000) (hq0 : 1 ≤ q) (hq : q ≤ 1048578) :
    Calls Try.prog 19 #[.agg #[.int .i64 k, .slice A n c], .int .i64 q] w fun e w' => e = .returned (.int .i64 (q + (n : Int) * 2)) ∧ Own w' base 2 A n (ruls (markedRule q n)) ∧ w.grownBy w' (blk A n) := by
  have hp := fun (o : Obj) => (Below.refl w.heap.size w).alloc (Nat.le_refl _) o
  have h1 := Lib.hid (fun o => markRuleS_c A n c base cs q (w.alloc o) (hA.below (hp o)) hn hq0 hq)
  have HP := Lib.hid (fun o => grown_of_below (hp o) (blk A n))
  clear hA hp
  go_enter Try.func19, Try.ntmps19
  go_wp2_with fail
  refine (h1.out _).mono ?_
  rintro e w1 ⟨rfl, ho, hg⟩
  have HO := Lib.hid ho
  have HG := Lib.hid ((HP.out _).trans hg)
  clear ho hg
  go_wp2_with fail
  go_ret
  exact ⟨rfl, HO.out, HG.out⟩
set_option maxRecDepth 100000 in
set_option maxHeartbeats 1000000 in
theorem heldSystem_c (k : Int) (A : Option Addr) (n c : Nat) (q : Int) (w : World) (hA : Rd w 2 A n (ruls (markedRule q n))) (hn : n ≤ 13000000) (hq0 : 1 ≤ q) (hq : q ≤ 1048578) :
    Calls Try.prog 20 #[.agg #[.int .i64 k, .slice A n c], .int .i64 q] w fun e w' => e = .returned (.int .i64 (q + (n : Int) * 2)) ∧ Below w.heap.size w w' := by
  have hp := fun (o : Obj) => (Below.refl w.heap.size w).alloc (Nat.le_refl _) o
  have h1 := Lib.hid (fun o => heldRuleS_c A n c q (w.alloc o) (hA.below (hp o)) hn hq0 hq)
  have hneg : ¬ (q + (n : Int) * 2 < 0) := by omega
  clear hA hp
  go_enter Try.func20, Try.ntmps20
  go_wp2_with fail
  refine (h1.out _).mono ?_
  rintro e w1 ⟨rfl, hb⟩
  go_wp2_with fail
  go_ret
  exact ⟨rfl, below_alloc1 hb⟩

end Go.Proofs.Ytlohpphmamapeaa
