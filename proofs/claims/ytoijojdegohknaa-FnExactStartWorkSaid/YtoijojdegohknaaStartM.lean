/-
  The marking of a work without rules; slices of rules, opened.
  Conditions: at most 2^20 equations.
-/
import Derived.Test.YtoijojdegohknaaStart
namespace Go.Proofs.Ytoijojdegohknaa
open Go.ChangeShapes Go.WideShapes Go.ChangeAt Go.RowKit Go.Joins Go.Deep
set_option linter.unusedVariables false

theorem own_none {w : World} {base size : Nat} : Own w base size none 0 [] := ⟨by simp, fun h => absurd h (by simp)⟩
theorem eqWork0_t (k : Int) (B : Option Addr) (d : Nat) (qs : List M.Rule) (t : Int) (B' : Option Addr) (d' : Nat) (w : World) (hB : Rd w 2 B qs.length (ruls qs)) (hB' : Rd w 2 B' qs.length (ruls qs)) (hql : qs.length ≤ 1099511627776) :
    Calls Try.prog 18 #[.agg #[.int .i64 k, .slice none 0 0, .slice B qs.length d, .int .i64 t], .agg #[.int .i64 k, .slice none 0 0, .slice B' qs.length d', .int .i64 t]] w fun e w' => e = .returned (.bool true) ∧ Below w.heap.size w w' :=
  eqWork_t k none 0 [] B d qs t none 0 B' d' w Rd.none_ hB Rd.none_ hB' (by simp) hql
set_option maxRecDepth 100000 in
set_option maxHeartbeats 1000000 in
theorem markWork0_c (k : Int) (A : Option Addr) (n c base : Nat) (cs : List Value) (t q : Int) (w : World) (hA : Own w base 2 A n cs) (hn : n ≤ 13000000) (hq0 : 1 ≤ q) (hq : q ≤ 1048578) :
    Calls Try.prog 21 #[.agg #[.int .i64 k, .slice none 0 0, .slice A n c, .int .i64 t], .int .i64 q] w fun e w' => e = .returned (.int .i64 (q + (n : Int) * 2)) ∧ Own w' base 2 A n (ruls (markedRule q n)) ∧ w.grownBy w' (blk A n) := by
  have hp := fun (o : Obj) => (Below.refl w.heap.size w).alloc (Nat.le_refl _) o
  have h0' : ∀ W, Calls Try.prog 38 #[.agg #[.int .i64 k, .slice none 0 0], .int .i64 q] W (fun e w' => e = .returned (.int .i64 q) ∧ W.grownBy w' none) := fun W => (markSystem_c k none 0 0 0 [] q W own_none (by omega) hq0 hq).mono fun _ _ h => ⟨h.1.trans (by simp), by simpa [blk] using h.2.2⟩
  have h0 := Lib.hid h0'
  clear h0'
  have h1 := Lib.hid (fun W h => markRuleS_c A n c base cs q W h hn hq0 hq)
  have HA := Lib.hid hA
  have HP := Lib.hid (fun o => grown_of_below (hp o) (blk A n))
  have HP2 := Lib.hid hp
  clear hA hp
  go_enter Try.func21, Try.ntmps21
  go_wp2_with fail
  refine (h0.out _).mono ?_
  rintro e w1 ⟨rfl, hg⟩
  have c2 : w1.cell? ⟨w.heap.size, 2, none⟩ = some (.slice A n c) := cellGrown hg (by simp [go_sem]) (by simp)
  have HG := Lib.hid hg
  have HO := Lib.hid ((HA.out.below (HP2.out _)).grown hg (by simp))
  clear hg
  go_wp2_with fail
  refine (h1.out _ HO.out).mono ?_
  rintro e w2 ⟨rfl, ho, hg⟩
  have HO2 := Lib.hid ho
  have HG2 := Lib.hid (((HP.out _).trans ⟨HG.out.os, HG.out.tape, HG.out.output, HG.out.size, fun k hk _ => HG.out.block k hk (by simp)⟩).trans hg)
  clear ho hg
  go_wp2_with fail
  go_ret
  exact ⟨rfl, HO2.out, HG2.out⟩
set_option maxRecDepth 100000 in
set_option maxHeartbeats 1000000 in
theorem heldWork0_c (k : Int) (A : Option Addr) (n c : Nat) (t q : Int) (w : World) (hA : Rd w 2 A n (ruls (markedRule q n))) (hn : n ≤ 13000000) (hq0 : 1 ≤ q) (hq : q ≤ 1048578) :
    Calls Try.prog 22 #[.agg #[.int .i64 k, .slice none 0 0, .slice A n c, .int .i64 t], .int .i64 q] w fun e w' => e = .returned (.int .i64 (q + (n : Int) * 2)) ∧ Below w.heap.size w w' := by
  have hp := fun (o : Obj) => (Below.refl w.heap.size w).alloc (Nat.le_refl _) o
  have h0' : ∀ W, Calls Try.prog 50 #[.agg #[.int .i64 k, .slice none 0 0], .int .i64 q] W (fun e w' => e = .returned (.int .i64 q) ∧ Below W.heap.size W w') := fun W => (heldSystem_c k none 0 0 q W Rd.none_ (by omega) hq0 hq).mono fun _ _ h => ⟨h.1.trans (by simp), h.2⟩
  have h0 := Lib.hid h0'
  clear h0'
  have h1 := Lib.hid (fun W h => heldRuleS_c A n c q W h hn hq0 hq)
  have HA := Lib.hid hA
  have hneg : ¬ (q < 0) := by omega
  have hneg2 : ¬ (q + (n : Int) * 2 < 0) := by omega
  clear hA hp
  go_enter Try.func22, Try.ntmps22
  go_wp2_with fail
  refine (h0.out _).mono ?_
  rintro e w1 ⟨rfl, hb⟩
  have c2 : w1.cell? ⟨w.heap.size, 2, none⟩ = some (.slice A n c) := cellKeep hb (by simp [go_sem])
  have HB := Lib.hid (below_alloc1 hb)
  clear hb
  go_wp2_with fail
  refine (h1.out _ (HA.out.below HB.out)).mono ?_
  rintro e w2 ⟨rfl, hb2⟩
  have HB2 := Lib.hid (HB.out.trans (hb2.mono HB.out.size))
  clear hb2
  go_wp2_with fail
  go_ret
  exact ⟨rfl, HB2.out⟩
section
variable {H : Type} {enc : TypeId × Value → H} {w : World} {b0 : Nat} {held : Bool} {spare : Nat → Bool} {v : Value} {d : DataW H} {p : List MemPlace}
set_option maxRecDepth 100000 in
theorem openRules (hv : Value.okWide Try.prog w .any b0 22 v) (h : DataW.Trod enc Try.prog w 0 spare held 22 v d p) :
    ∃ (A : Option Addr) (c : Nat) (rs : List M.Rule), v = .slice A rs.length c ∧ (rs.length ≤ 9223372036854775807 ∧ Rd w 2 A rs.length (ruls rs) ∧ ∀ r ∈ rs, r.left.length ≤ 9223372036854775807 ∧ r.right.length ≤ 9223372036854775807) := by
  obtain ⟨a0, len, cap, rfl⟩ := okWide_slice Try.underlying22 hv
  obtain ⟨fuel, hf⟩ := h
  obtain ⟨A, c, xs, e, h1, h2, h3⟩ := openRuleSlice (v := .slice a0 len cap) (by simpa [Value.cells] using hf)
  exact ⟨A, c, xs, e, h1, h2, h3⟩
end

end Go.Proofs.Ytoijojdegohknaa
