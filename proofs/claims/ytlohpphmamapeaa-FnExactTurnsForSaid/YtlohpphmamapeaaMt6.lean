/-
  Contracts and plain laws for the functions of this seat (texts joined: RunC CompC).
  Conditions: each text says its own.
-/

import Derived.Test.YtlohpphmamapeaaMt4
import Derived.Test.YtlohpphmamapeaaMt5
/-
  The completion: turns until the queue is empty, of the program and of the reference.
  Conditions: at most 2^20 equations of at most 2^20 letters; the global MaxLen holds an int.
-/
namespace Go.Proofs.Ytlohpphmamapeaa
open Go.ChangeShapes Go.WideShapes Go.ChangeAt Go.RowKit Go.Joins Go.Deep
set_option linter.unusedVariables false
set_option linter.unusedSimpArgs false

/-- What StartWork returns: the queue its own, with its capacity. -/
def RetStartS (e : TypeId) (sk : Int) (sq : List M.Rule) (so : Bool) (w : World) (x : Ending) (w' : World) : Prop :=
  ∃ A c, x = .returned (.tuple #[.agg #[.int .i64 sk, .slice none 0 0, .slice A sq.length c, .int .i64 0], .bool so]) ∧ OwnS w' w.heap.size e 2 A sq.length c (ruls sq) ∧ Below w.heap.size w w'
theorem ownS_none {w : World} {base size : Nat} {e : TypeId} : OwnS w base e size none 0 0 [] := ⟨by simp, Nat.le_refl _, by simp [maxLen], fun h => by omega⟩
/-- Turns until the queue is empty or a turn fails. -/
def M.runTo (k : Int) : Nat → List M.Rule → List M.Rule → Int → M.Wk
  | 0, rs, qs, t => ⟨rs, qs, t, 0⟩
  | f + 1, rs, qs, t => if qs = [] then ⟨rs, qs, t, 0⟩ else if (M.turn k rs qs t).code = 0 then M.runTo k f (M.turn k rs qs t).rs (M.turn k rs qs t).qs (M.turn k rs qs t).t else ⟨rs, qs, t, (M.turn k rs qs t).code⟩
def M.run (k : Int) (es : List M.Rule) : M.Wk := if M.startOk k es = true then M.runTo k 201 [] es 0 else ⟨[], [], 0, 4⟩
theorem runTo_end {k : Int} {f : Nat} {rs : List M.Rule} {t : Int} : M.runTo k (f + 1) rs [] t = ⟨rs, [], t, 0⟩ := by unfold M.runTo; rw [if_pos rfl]
theorem runTo_stop {k : Int} {f : Nat} {rs qs : List M.Rule} {t : Int} (h : qs ≠ []) (hc : (M.turn k rs qs t).code ≠ 0) : M.runTo k (f + 1) rs qs t = ⟨rs, qs, t, (M.turn k rs qs t).code⟩ := by unfold M.runTo; rw [if_neg h, if_neg hc]
theorem runTo_go {k : Int} {f : Nat} {rs qs : List M.Rule} {t : Int} (h : qs ≠ []) (hc : (M.turn k rs qs t).code = 0) : M.runTo k (f + 1) rs qs t = M.runTo k f (M.turn k rs qs t).rs (M.turn k rs qs t).qs (M.turn k rs qs t).t := by rw [M.runTo, if_neg h, if_pos hc]
/-- Sizes that every call can bear. -/
def Bd (rs qs : List M.Rule) : Prop := rs.length ≤ 1048576 ∧ (∀ r ∈ rs, r.left.length ≤ 1048576 ∧ r.right.length ≤ 1048576) ∧ qs.length ≤ 1048576 ∧ ∀ r ∈ qs, r.left.length ≤ 1048576 ∧ r.right.length ≤ 1048576
theorem bd_ok {k : Int} {rs qs : List M.Rule} {t : Int} (h : M.WorkOk k rs qs t = true) : Bd rs qs := by
  obtain ⟨hs, hl, _, hf⟩ := work_iff.1 h
  exact ⟨by have := (sys_iff.1 hs).2.1; omega, sys_short hs, by omega, fun r hr => ⟨Nat.le_trans (hf r hr).1.2.2 (by decide), Nat.le_trans (hf r hr).2.2.2 (by decide)⟩⟩
/-- The number in a cell. -/
def cellI : Option Value → Nat
  | some (.int _ z) => z.toNat
  | _ => 0
/-- The cells of the result ahead of the return. -/
def ResF (w wr : World) : Prop :=
  (wr.cell? ⟨w.heap.size, 0, none⟩ = some (.int .i64 0) ∧ wr.cell? ⟨w.heap.size, 1, none⟩ = some (.slice none 0 0) ∧ wr.cell? ⟨w.heap.size, 2, none⟩ = some (.slice none 0 0) ∧ wr.cell? ⟨w.heap.size, 3, none⟩ = some (.int .i64 0)) ∧
  (wr.frozen? ⟨w.heap.size, 0, none⟩ = false ∧ wr.frozen? ⟨w.heap.size, 1, none⟩ = false ∧ wr.frozen? ⟨w.heap.size, 2, none⟩ = false ∧ wr.frozen? ⟨w.heap.size, 3, none⟩ = false) ∧ w.heap.size + 1 ≤ wr.heap.size ∧ Below w.heap.size w wr
section
variable {w wr w' : World} {k t : Int} {A B : Option Addr} {n c m d g : Nat} {e ew : TypeId} {us vs : List Value} {cur : Array Value}
theorem ResF.keep (h : ResF w wr) (hb : Below (w.heap.size + 1) wr w') (hz : wr.heap.size ≤ w'.heap.size) : ResF w w' := by
  obtain ⟨⟨b0, b1, b2, b3⟩, ⟨f0, f1, f2, f3⟩, hs, hB⟩ := h
  have q1 : w.heap.size < w.heap.size + 1 := by omega
  have fz := fun (o : Nat) => hb.frozen (p := ⟨w.heap.size, o, none⟩) q1
  exact ⟨⟨cellBelow hb q1 b0, cellBelow hb q1 b1, cellBelow hb q1 b2, cellBelow hb q1 b3⟩, ⟨(fz 0).trans f0, (fz 1).trans f1, (fz 2).trans f2, (fz 3).trans f3⟩, by omega, hB.trans (hb.mono (by omega))⟩
theorem ResF.below (h : ResF w wr) (hb : Below wr.heap.size wr w') : ResF w w' := h.keep (hb.mono h.2.2.1) hb.size
theorem ResF.setAt (h : ResF w wr) (hg : w.heap.size + 1 ≤ g) (o : Nat) (u : Value) : ResF w (wr.setCell ⟨g, o, none⟩ u) := h.keep ((Below.refl _ _).setCell hg _) (by simp)
theorem ResF.fin (h : ResF w wr) {e : TypeId} {A' B' : Option Addr} {n' c' m' d' : Nat} {us vs : List Value} (o1 : OwnS wr (w.heap.size + 1) e 2 A' n' c' us) (o2 : OwnS wr (w.heap.size + 1) e 2 B' m' d' vs) (u0 u1 u2 u3 : Value) :
    OwnS ((((wr.setCell ⟨w.heap.size, 0, none⟩ u0).setCell ⟨w.heap.size, 1, none⟩ u1).setCell ⟨w.heap.size, 2, none⟩ u2).setCell ⟨w.heap.size, 3, none⟩ u3) w.heap.size e 2 A' n' c' us ∧
    OwnS ((((wr.setCell ⟨w.heap.size, 0, none⟩ u0).setCell ⟨w.heap.size, 1, none⟩ u1).setCell ⟨w.heap.size, 2, none⟩ u2).setCell ⟨w.heap.size, 3, none⟩ u3) w.heap.size e 2 B' m' d' vs ∧
    Below w.heap.size w ((((wr.setCell ⟨w.heap.size, 0, none⟩ u0).setCell ⟨w.heap.size, 1, none⟩ u1).setCell ⟨w.heap.size, 2, none⟩ u2).setCell ⟨w.heap.size, 3, none⟩ u3) :=
  ⟨((((o1.setLow (by omega)).setLow (by omega)).setLow (by omega)).setLow (by omega)).mono (by omega), ((((o2.setLow (by omega)).setLow (by omega)).setLow (by omega)).setLow (by omega)).mono (by omega),
    (((h.2.2.2.setCell (by simp) _).setCell (by simp) _).setCell (by simp) _).setCell (by simp) _⟩
theorem ResF.res (h : ResF w wr) (u0 u1 u2 u3 : Value) :
    (wr.setCell ⟨w.heap.size, 0, none⟩ u0).cell? ⟨w.heap.size, 0, none⟩ = some u0 ∧ ((wr.setCell ⟨w.heap.size, 0, none⟩ u0).setCell ⟨w.heap.size, 1, none⟩ u1).cell? ⟨w.heap.size, 1, none⟩ = some u1 ∧
    (((wr.setCell ⟨w.heap.size, 0, none⟩ u0).setCell ⟨w.heap.size, 1, none⟩ u1).setCell ⟨w.heap.size, 2, none⟩ u2).cell? ⟨w.heap.size, 2, none⟩ = some u2 ∧
    ((((wr.setCell ⟨w.heap.size, 0, none⟩ u0).setCell ⟨w.heap.size, 1, none⟩ u1).setCell ⟨w.heap.size, 2, none⟩ u2).setCell ⟨w.heap.size, 3, none⟩ u3).cell? ⟨w.heap.size, 3, none⟩ = some u3 := by
  obtain ⟨⟨b0, b1, b2, b3⟩, _⟩ := h
  have ne : ∀ {W : World} {o o' : Nat} (u : Value), o ≠ o' → (W.setCell ⟨w.heap.size, o, none⟩ u).cell? ⟨w.heap.size, o', none⟩ = W.cell? ⟨w.heap.size, o', none⟩ := fun u hne => cell_set_ne u (Or.inr hne)
  exact ⟨cell_set_eq _ b0, cell_set_eq u1 ((ne u0 (by decide)).trans b1), cell_set_eq u2 (((ne u1 (by decide)).trans (ne u0 (by decide))).trans b2), cell_set_eq u3 ((((ne u2 (by decide)).trans (ne u1 (by decide))).trans (ne u0 (by decide))).trans b3)⟩
/-- A work laid over another one. -/
theorem OutQ.over {lo n' c' m' d' : Nat} {k' t' : Int} {A' B' : Option Addr} {us' vs' : List Value} (q : OutQ e ew lo wr g k A n c us B m d vs t) (hne : e ≠ ew) (hA : OwnS wr lo e 2 A' n' c' us') (hB : OwnS wr lo e 2 B' m' d' vs') (ha : apartS A' c' B' d') :
    OutQ e ew lo ((((wr.setCell ⟨g, 0, none⟩ (.int .i64 k')).setCell ⟨g, 1, none⟩ (.slice A' n' c')).setCell ⟨g, 2, none⟩ (.slice B' m' d')).setCell ⟨g, 3, none⟩ (.int .i64 t')) g k' A' n' c' us' B' m' d' vs' t' := by
  have h0 := heap_setCell_same wr g 0 _ _ (.int .i64 k') q.1
  have h1 := heap_setCell_same _ g 1 _ _ (.slice A' n' c') h0
  have h2 := heap_setCell_same _ g 2 _ _ (.slice B' m' d') h1
  exact ⟨heap_setCell_same _ g 3 _ _ (.int .i64 t') h2, q.2.1, (((hA.setApart q.1 hne _ _).setApart h0 hne _ _).setApart h1 hne _ _).setApart h2 hne _ _, (((hB.setApart q.1 hne _ _).setApart h0 hne _ _).setApart h1 hne _ _).setApart h2 hne _ _, ha⟩
theorem OutQ.tab4 {lo : Nat} (q : OutQ e ew lo wr g k A n c us B m d vs t) (u0 u1 u2 u3 : Value) :
    (wr.setCell ⟨g, 0, none⟩ u0).cell? ⟨g, 1, none⟩ = some (.slice A n c) ∧ ((wr.setCell ⟨g, 0, none⟩ u0).setCell ⟨g, 1, none⟩ u1).cell? ⟨g, 2, none⟩ = some (.slice B m d) ∧ (((wr.setCell ⟨g, 0, none⟩ u0).setCell ⟨g, 1, none⟩ u1).setCell ⟨g, 2, none⟩ u2).cell? ⟨g, 3, none⟩ = some (.int .i64 t) := by
  obtain ⟨s0, s1, s2, s3⟩ := q.tab
  have ne : ∀ {W : World} {o o' : Nat} (u : Value), o ≠ o' → (W.setCell ⟨g, o, none⟩ u).cell? ⟨g, o', none⟩ = W.cell? ⟨g, o', none⟩ := fun u hne => cell_set_ne u (Or.inr hne)
  exact ⟨(ne _ (by decide)).trans s1, ((ne _ (by decide)).trans (ne _ (by decide))).trans s2, (((ne _ (by decide)).trans (ne _ (by decide))).trans (ne _ (by decide))).trans s3⟩
end
set_option maxRecDepth 100000 in
set_option maxHeartbeats 4000000 in
theorem spec_StartWork_s (k : Int) (ad : Addr) (c : Nat) (es : List M.Rule) (w : World) (hA : Rd w 2 (some ad) es.length (ruls es)) (hl : es.length ≤ 1048576) (hs : ∀ r ∈ es, r.left.length ≤ 1048576 ∧ r.right.length ≤ 1048576) :
    Calls Try.prog 154 #[.int .i64 k, .slice (some ad) es.length c] w (RetStartS 84 (M.startK k es) (M.startQ k es) (M.startOk k es) w) := by
  have h1 := Lib.hid (fun W => l01In_c k 1 4 W)
  have HA := Lib.hid hA
  have HS := Lib.hid hs
  clear hA hs
  obtain ⟨x, hx⟩ : ∃ x, x = M.within k 1 4 := ⟨_, rfl⟩
  rw [← hx] at h1
  cases x
  case false =>
    have h0 := startOk_no1 (es := es) hx.symm
    rw [(start_no h0).1, (start_no h0).2, h0]
    clear hx h0
    go_enter Try.func154, Try.ntmps154
    go_wp2_with fail
    refine (h1.out _).mono ?_
    rintro e w1 ⟨rfl, rfl⟩
    go_wp2_with fail
    refine bodyPost_ret (v := .tuple #[.agg #[.int .i64 0, .slice none 0 0, .slice none 0 0, .int .i64 0], .bool false]) (by simp [results, Try.results154, go_sem]) rfl ⟨none, 0, rfl, ownS_none, (by repeat (first | exact Below.refl _ _ | refine Below.setCell ?_ (by simp <;> omega) _ | refine Below.alloc ?_ (by simp <;> omega) _ | refine below_drewN ?_ _ | refine Below.drew ?_))⟩
  case true =>
  by_cases h12 : es.length ≤ 12
  case neg =>
    have h0 := startOk_no2 (k := k) h12
    rw [(start_no h0).1, (start_no h0).2, h0]
    have h12' : (12 : Int) < (es.length : Int) := by omega
    clear hx h0
    go_enter Try.func154, Try.ntmps154
    go_wp2_with fail
    refine (h1.out _).mono ?_
    rintro e w1 ⟨rfl, rfl⟩
    go_wp2_with fail
    refine bodyPost_ret (v := .tuple #[.agg #[.int .i64 0, .slice none 0 0, .slice none 0 0, .int .i64 0], .bool false]) (by simp [results, Try.results154, go_sem]) rfl ⟨none, 0, rfl, ownS_none, (by repeat (first | exact Below.refl _ _ | refine Below.setCell ?_ (by simp <;> omega) _ | refine Below.alloc ?_ (by simp <;> omega) _ | refine below_drewN ?_ _ | refine Below.drew ?_))⟩
  case pos =>
  have h12' : ¬ ((12 : Int) < (es.length : Int)) := by omega
  have h0 := startOk_yes (es := es) hx.symm h12
  obtain ⟨q, hq⟩ : ∃ q, q = es.any (fun r => !M.SidesOk k r) := ⟨_, rfl⟩
  rw [← hq] at h0
  have HQ := Lib.hid hq
  have HNO := Lib.hid (fun (h : q = true) => show M.startK k es = 0 ∧ M.startQ k es = [] ∧ M.startOk k es = false from ⟨(start_no (by rw [h0, h]; rfl)).1, (start_no (by rw [h0, h]; rfl)).2, by rw [h0, h]; rfl⟩)
  have HYES := Lib.hid (fun (h : q = false) => show M.startK k es = k ∧ M.startQ k es = es ∧ M.startOk k es = true from ⟨(start_yes (by rw [h0, h]; rfl)).1, (start_yes (by rw [h0, h]; rfl)).2, by rw [h0, h]; rfl⟩)
  obtain ⟨sk, hsk⟩ : ∃ sk, sk = M.startK k es := ⟨_, rfl⟩
  obtain ⟨sq, hsq⟩ : ∃ sq, sq = M.startQ k es := ⟨_, rfl⟩
  obtain ⟨so, hso⟩ : ∃ so, so = M.startOk k es := ⟨_, rfl⟩
  rw [← hsk, ← hsq, ← hso] at HNO HYES
  rw [← hsk, ← hsq, ← hso]
  obtain ⟨n, hn⟩ : ∃ n, n = es.length := ⟨_, rfl⟩
  have HN := Lib.hid hn
  have hnb : n ≤ 12 := by omega
  rw [← hn] at HA h12' ⊢
  clear hx hq h0 hsk hsq hso hn h12 hl
  go_enter Try.func154, Try.ntmps154
  go_wp2_with fail
  refine (h1.out _).mono ?_
  rintro e w1 ⟨rfl, rfl⟩
  go_wp2_with fail
  obtain ⟨w1, hw1⟩ : ∃ w1 : World, w1 = w.alloc (.cells #[.int .i64 0, .slice none 0 0, .slice none 0 0, .int .i64 0] 60) := ⟨_, rfl⟩
  have D0 := Lib.hid (show w1.cell? ⟨w.heap.size, 0, none⟩ = some (.int .i64 0) by rw [hw1]; simp [go_sem])
  have F0 := Lib.hid (show w1.frozen? ⟨w.heap.size, 0, none⟩ = false by rw [hw1]; simp [go_sem])
  have D1 := Lib.hid (show w1.cell? ⟨w.heap.size, 1, none⟩ = some (.slice none 0 0) by rw [hw1]; simp [go_sem])
  have F1 := Lib.hid (show w1.frozen? ⟨w.heap.size, 1, none⟩ = false by rw [hw1]; simp [go_sem])
  have D2 := Lib.hid (show w1.cell? ⟨w.heap.size, 2, none⟩ = some (.slice none 0 0) by rw [hw1]; simp [go_sem])
  have F2 := Lib.hid (show w1.frozen? ⟨w.heap.size, 2, none⟩ = false by rw [hw1]; simp [go_sem])
  have D3 := Lib.hid (show w1.cell? ⟨w.heap.size, 3, none⟩ = some (.int .i64 0) by rw [hw1]; simp [go_sem])
  have F3 := Lib.hid (show w1.frozen? ⟨w.heap.size, 3, none⟩ = false by rw [hw1]; simp [go_sem])
  have HB0 := Lib.hid (show Below w.heap.size w w1 by rw [hw1]; exact (Below.refl _ _).alloc (Nat.le_refl _) _)
  have HS1 := Lib.hid (show w.heap.size + 1 ≤ w1.heap.size by rw [hw1]; simp)
  have HA1 := Lib.hid (HA.out.below HB0.out)
  rw [← hw1]
  clear hw1
  go_loopw [19] (fun z wr => ∃ j : Nat, j ≤ n ∧ z = .int .i64 j ∧ (es.drop j).any (fun r => !M.SidesOk k r) = q ∧ Below w1.heap.size w1 wr) (fun z _ => n - (intOf z).toNat)
  case atStart => exact ⟨0, by omega, rfl, by rw [List.drop_zero, HQ.out], Below.refl _ _⟩
  case round =>
    obtain ⟨j, hj, rfl, hf, hb⟩ := hrel
    have HB := Lib.hid hb
    have hws := Nat.le_trans HS1.out hb.size
    by_cases hlt : j < n
    case neg =>
      have e : q = false := by rw [List.drop_eq_nil_of_le (by have := HN.out; omega)] at hf; exact hf.symm
      obtain ⟨e1, e2, e3⟩ := HYES.out e
      have d0 := cellKeep hb D0.out
      have f0 := frozenKeep hb D0.out F0.out
      have d1 := cellKeep hb D1.out
      have f1 := frozenKeep hb D1.out F1.out
      have d2 := cellKeep hb D2.out
      have f2 := frozenKeep hb D2.out F2.out
      have d3 := cellKeep hb D3.out
      have f3 := frozenKeep hb D3.out F3.out
      have HD := Lib.hid (And.intro d0 (And.intro d1 (And.intro d2 d3)))
      have HFR := Lib.hid (And.intro f0 (And.intro f1 (And.intro f2 f3)))
      have HA2 := Lib.hid (fun o => (HA1.out.below HB.out).below ((Below.refl wr.heap.size wr).alloc (Nat.le_refl _) o))
      have HE := Lib.hid (And.intro e1 (And.intro e2 e3))
      have hle := HN.out
      clear hf hb d0 d1 d2 d3 f0 f1 f2 f3 e e1 e2 e3
      go_wp2_with (at_builtin; refine push_many rfl _ _ rfl slRule rfl (World.ownsRow_lit wr #[] 0 (Nat.le_refl _) (by simp [maxLen]) (by simp)) rfl (HA2.out _) (ruls_one' es) ((Below.refl _ _).alloc (Nat.le_refl _) _) rfl (by omega) ?_; intro A2 c2 w2 hown2 hb2; obtain ⟨d0, d1, d2, d3⟩ := HD.out; obtain ⟨f0, f1, f2, f3⟩ := HFR.out; replace f0 := frozenKeep hb2 d0 f0; replace f1 := frozenKeep hb2 d1 f1; replace f2 := frozenKeep hb2 d2 f2; replace f3 := frozenKeep hb2 d3 f3; replace d0 := cellKeep hb2 d0; replace d1 := cellKeep hb2 d1; replace d2 := cellKeep hb2 d2; replace d3 := cellKeep hb2 d3; have HO2 := Lib.hid hown2; have HB2 := Lib.hid hb2; clear hown2 hb2)
      obtain ⟨e1, e2, e3⟩ := HE.out
      have HOO := Lib.hid ((OwnS.of_row HO2.out).mono (base' := w.heap.size + 1) (by omega))
      rw [Nat.zero_add] at HOO
      refine bodyPost_ret (v := .tuple #[.agg #[.int .i64 k, .slice none 0 0, .slice A2 n c2, .int .i64 0], .bool true]) ?_ rfl ⟨A2, c2, by rw [e1, e2, e3, ← hle], ?_, ?_⟩
      · simp [results, Try.results154, go_sem, cell_set_ne, set_some, isSome_keep, some_of d0, some_of d1, some_of d2, some_of d3]
        exact hle.symm
      · rw [e2, ← hle]
        exact (((((HOO.out).setLow (by omega)).setLow (by omega)).setLow (by omega)).setLow (by omega)).mono (by omega)
      · exact ((((HB0.out.trans ((HB.out.trans (HB2.out.mono HB.out.size)).mono HB0.out.size)).setCell (by simp <;> omega) _).setCell (by simp <;> omega) _).setCell (by simp <;> omega) _).setCell (by simp <;> omega) _
    case pos =>
      obtain ⟨b, o, hadd, hz, hc1, hc2⟩ := (HA1.out.below hb).ruleAt (k := j) hlt
      injection hadd with hadd
      subst hadd
      have hd : (es.drop j).any (fun r => !M.SidesOk k r) = (!M.SidesOk k es[j] || (es.drop (j + 1)).any (fun r => !M.SidesOk k r)) := by rw [List.drop_eq_getElem_cons hz, List.any_cons]
      have hsz := HS.out es[j] (List.getElem_mem hz)
      have HF2 := Lib.hid (hd.symm.trans hf)
      generalize es[j] = r at *
      obtain ⟨rl, rr⟩ := r
      simp only at hc1 hc2 hsz
      have HC := Lib.hid (fun W => spec_SidesOk_c k rl rr W hsz.1 hsz.2)
      have d0 := cellKeep hb D0.out
      have f0 := frozenKeep hb D0.out F0.out
      have d1 := cellKeep hb D1.out
      have f1 := frozenKeep hb D1.out F1.out
      have d2 := cellKeep hb D2.out
      have f2 := frozenKeep hb D2.out F2.out
      have d3 := cellKeep hb D3.out
      have f3 := frozenKeep hb D3.out F3.out
      have HD := Lib.hid (And.intro d0 (And.intro d1 (And.intro d2 d3)))
      have HFR := Lib.hid (And.intro f0 (And.intro f1 (And.intro f2 f3)))
      generalize M.SidesOk k ⟨rl, rr⟩ = x at *
      clear hd hf hb hsz d0 d1 d2 d3 f0 f1 f2 f3
      cases x
      case true =>
        have HE := Lib.hid (show (es.drop (j + 1)).any (fun r => !M.SidesOk k r) = q by have h := HF2.out; simpa using h)
        go_wp2_with fail
        refine (HC.out _).mono ?_
        rintro e w2 ⟨rfl, hb2⟩
        go_wp2_with fail
        go_roundw
        case rel => exact ⟨j + 1, by omega, by go_num, HE.out, HB.out.trans ((below_alloc1 hb2).mono HB.out.size)⟩
        case measure => simp [intOf] <;> omega
      case false =>
        obtain ⟨e1, e2, e3⟩ := HNO.out (show q = true by rw [← HF2.out]; rfl)
        have HE := Lib.hid (And.intro e1 (And.intro e2 e3))
        clear e1 e2 e3
        go_wp2_with fail
        refine (HC.out _).mono ?_
        rintro e w2 ⟨rfl, hb2⟩
        have hb3 := below_alloc1 hb2
        obtain ⟨d0, d1, d2, d3⟩ := HD.out
        obtain ⟨f0, f1, f2, f3⟩ := HFR.out
        replace f0 := frozenKeep hb3 d0 f0
        replace f1 := frozenKeep hb3 d1 f1
        replace f2 := frozenKeep hb3 d2 f2
        replace f3 := frozenKeep hb3 d3 f3
        replace d0 := cellKeep hb3 d0
        replace d1 := cellKeep hb3 d1
        replace d2 := cellKeep hb3 d2
        replace d3 := cellKeep hb3 d3
        have HB3 := Lib.hid hb3
        clear hb2 hb3
        go_wp2_with fail
        obtain ⟨e1, e2, e3⟩ := HE.out
        refine bodyPost_ret (v := .tuple #[.agg #[.int .i64 0, .slice none 0 0, .slice none 0 0, .int .i64 0], .bool false]) ?_ rfl ⟨none, 0, by rw [e1, e2, e3]; rfl, by rw [e2]; exact ownS_none, ?_⟩
        · simp [results, Try.results154, go_sem, cell_set_ne, set_some, isSome_keep, some_of d0, some_of d1, some_of d2, some_of d3]
        · exact ((((HB0.out.trans ((HB.out.trans (HB3.out.mono HB.out.size)).mono HB0.out.size)).setCell (by simp <;> omega) _).setCell (by simp <;> omega) _).setCell (by simp <;> omega) _).setCell (by simp <;> omega) _
set_option maxRecDepth 100000 in
set_option maxHeartbeats 4000000 in
theorem impl_StartWork_s (k : Int) (ad : Addr) (c : Nat) (es : List M.Rule) (w : World) (hA : Rd w 2 (some ad) es.length (ruls es)) (hl : es.length ≤ 1048576) (hs : ∀ r ∈ es, r.left.length ≤ 1048576 ∧ r.right.length ≤ 1048576) :
    Calls Try.prog 57 #[.int .i64 k, .slice (some ad) es.length c] w (RetStartS 84 (M.startK k es) (M.startQ k es) (M.startOk k es) w) := by
  have h1 := Lib.hid (fun W => within_c k 1 4 W)
  have h2 := Lib.hid (fun b0 W h hc => ContainsFuncStartWork1_c b0 (fun r => !M.SidesOk k r) (some ad) c es W h hl hc)
  have h3 := Lib.hid (fun W h => cloneRule_c ad c es W h hl)
  have HA := Lib.hid hA
  have HS := Lib.hid hs
  have hmf : ∀ (fn : Fn) (first cap : Array Value) (w : World), (Instr.makeFunc fn first cap).run Try.prog w = .ok (.func fn first cap) w := fun _ _ _ _ => rfl
  clear hA hs
  obtain ⟨x, hx⟩ : ∃ x, x = M.within k 1 4 := ⟨_, rfl⟩
  rw [← hx] at h1
  cases x
  case false =>
    have h0 := startOk_no1 (es := es) hx.symm
    rw [(start_no h0).1, (start_no h0).2, h0]
    clear hx h0
    go_enter Try.func57, Try.ntmps57
    go_wp2_with fail
    refine (h1.out _).mono ?_
    rintro e w1 ⟨rfl, rfl⟩
    go_wp2_with fail
    refine bodyPost_ret (v := .tuple #[.agg #[.int .i64 0, .slice none 0 0, .slice none 0 0, .int .i64 0], .bool false]) (by simp [results, Try.results57, go_sem]) rfl ⟨none, 0, rfl, ownS_none, (by repeat (first | exact Below.refl _ _ | refine Below.setCell ?_ (by simp <;> omega) _ | refine Below.alloc ?_ (by simp <;> omega) _ | refine below_drewN ?_ _ | refine Below.drew ?_))⟩
  case true =>
  by_cases h12 : es.length ≤ 12
  case neg =>
    have h0 := startOk_no2 (k := k) h12
    rw [(start_no h0).1, (start_no h0).2, h0]
    have h12' : (12 : Int) < (es.length : Int) := by omega
    clear hx h0
    go_enter Try.func57, Try.ntmps57
    go_wp2_with fail
    refine (h1.out _).mono ?_
    rintro e w1 ⟨rfl, rfl⟩
    go_wp2_with fail
    refine bodyPost_ret (v := .tuple #[.agg #[.int .i64 0, .slice none 0 0, .slice none 0 0, .int .i64 0], .bool false]) (by simp [results, Try.results57, go_sem]) rfl ⟨none, 0, rfl, ownS_none, (by repeat (first | exact Below.refl _ _ | refine Below.setCell ?_ (by simp <;> omega) _ | refine Below.alloc ?_ (by simp <;> omega) _ | refine below_drewN ?_ _ | refine Below.drew ?_))⟩
  case pos =>
  have h12' : ¬ ((12 : Int) < (es.length : Int)) := by omega
  have h0 := startOk_yes (es := es) hx.symm h12
  obtain ⟨q, hq⟩ : ∃ q, q = es.any (fun r => !M.SidesOk k r) := ⟨_, rfl⟩
  rw [← hq] at h0 h2
  clear hx hq h12
  cases q
  case true =>
    have h0 : M.startOk k es = false := h0
    rw [(start_no h0).1, (start_no h0).2, h0]
    clear h0
    go_enter Try.func57, Try.ntmps57
    go_wp2_with fail
    refine (h1.out _).mono ?_
    rintro e w1 ⟨rfl, rfl⟩
    go_wp2_with fail
    refine (h2.out w.heap.size _ (HA.out.below (by repeat (first | exact Below.refl _ _ | refine Below.setCell ?_ (by simp <;> omega) _ | refine Below.alloc ?_ (by simp <;> omega) _ | refine below_drewN ?_ _ | refine Below.drew ?_))) (fun W hW r hr => StartWork1_c k w.heap.size r W (cellKeep hW (by simp [go_sem])) (HS.out r hr))).mono ?_
    rintro e w1 ⟨rfl, hb⟩
    have d0 : w1.cell? ⟨w.heap.size + 1, 0, none⟩ = some (.int .i64 0) := cellKeep hb (by simp [go_sem])
    have f0 : w1.frozen? ⟨w.heap.size + 1, 0, none⟩ = false := ((bcell hb).2 _ _ (by simp)).trans (by simp [go_sem])
    have d1 : w1.cell? ⟨w.heap.size + 1, 1, none⟩ = some (.slice none 0 0) := cellKeep hb (by simp [go_sem])
    have f1 : w1.frozen? ⟨w.heap.size + 1, 1, none⟩ = false := ((bcell hb).2 _ _ (by simp)).trans (by simp [go_sem])
    have d2 : w1.cell? ⟨w.heap.size + 1, 2, none⟩ = some (.slice none 0 0) := cellKeep hb (by simp [go_sem])
    have f2 : w1.frozen? ⟨w.heap.size + 1, 2, none⟩ = false := ((bcell hb).2 _ _ (by simp)).trans (by simp [go_sem])
    have d3 : w1.cell? ⟨w.heap.size + 1, 3, none⟩ = some (.int .i64 0) := cellKeep hb (by simp [go_sem])
    have f3 : w1.frozen? ⟨w.heap.size + 1, 3, none⟩ = false := ((bcell hb).2 _ _ (by simp)).trans (by simp [go_sem])
    have HB := Lib.hid (below_alloc2 hb)
    clear hb
    go_wp2_with fail
    refine bodyPost_ret (v := .tuple #[.agg #[.int .i64 0, .slice none 0 0, .slice none 0 0, .int .i64 0], .bool false]) ?_ rfl ⟨none, 0, rfl, ownS_none, ?_⟩
    · simp [results, Try.results57, go_sem, cell_set_ne, set_some, isSome_keep, some_of d0, some_of d1, some_of d2, some_of d3]
    · exact (((HB.out.setCell (by simp <;> omega) _).setCell (by simp <;> omega) _).setCell (by simp <;> omega) _).setCell (by simp <;> omega) _
  case false =>
    have h0 : M.startOk k es = true := h0
    rw [(start_yes h0).1, (start_yes h0).2, h0]
    clear h0
    go_enter Try.func57, Try.ntmps57
    go_wp2_with fail
    refine (h1.out _).mono ?_
    rintro e w1 ⟨rfl, rfl⟩
    go_wp2_with fail
    refine (h2.out w.heap.size _ (HA.out.below (by repeat (first | exact Below.refl _ _ | refine Below.setCell ?_ (by simp <;> omega) _ | refine Below.alloc ?_ (by simp <;> omega) _ | refine below_drewN ?_ _ | refine Below.drew ?_))) (fun W hW r hr => StartWork1_c k w.heap.size r W (cellKeep hW (by simp [go_sem])) (HS.out r hr))).mono ?_
    rintro e w1 ⟨rfl, hb⟩
    have d0 : w1.cell? ⟨w.heap.size + 1, 0, none⟩ = some (.int .i64 0) := cellKeep hb (by simp [go_sem])
    have f0 : w1.frozen? ⟨w.heap.size + 1, 0, none⟩ = false := ((bcell hb).2 _ _ (by simp)).trans (by simp [go_sem])
    have d1 : w1.cell? ⟨w.heap.size + 1, 1, none⟩ = some (.slice none 0 0) := cellKeep hb (by simp [go_sem])
    have f1 : w1.frozen? ⟨w.heap.size + 1, 1, none⟩ = false := ((bcell hb).2 _ _ (by simp)).trans (by simp [go_sem])
    have d2 : w1.cell? ⟨w.heap.size + 1, 2, none⟩ = some (.slice none 0 0) := cellKeep hb (by simp [go_sem])
    have f2 : w1.frozen? ⟨w.heap.size + 1, 2, none⟩ = false := ((bcell hb).2 _ _ (by simp)).trans (by simp [go_sem])
    have d3 : w1.cell? ⟨w.heap.size + 1, 3, none⟩ = some (.int .i64 0) := cellKeep hb (by simp [go_sem])
    have f3 : w1.frozen? ⟨w.heap.size + 1, 3, none⟩ = false := ((bcell hb).2 _ _ (by simp)).trans (by simp [go_sem])
    have k0 : w1.cell? ⟨w.heap.size, 0, none⟩ = some (.int .i64 k) := cellKeep hb (by simp [go_sem])
    have HB := Lib.hid (below_alloc2 hb)
    have HS1 := Lib.hid (show w.heap.size + 2 ≤ w1.heap.size by have h := hb.size; (try simp at h); omega)
    have HD := Lib.hid (And.intro d0 (And.intro d1 (And.intro d2 (And.intro d3 k0))))
    have HFR := Lib.hid (And.intro f0 (And.intro f1 (And.intro f2 f3)))
    have HA1 := Lib.hid (HA.out.below HB.out)
    clear hb d0 d1 d2 d3 f0 f1 f2 f3
    go_wp2_with fail
    go_region_with (go_at_call 101; refine (h3.out _ (HA1.out.below (by first | exact (Below.refl _ _).drew | exact Below.refl _ _))).mono ?_; rintro e wc ⟨Ac, cc, rfl, hown, hbc⟩; have d0 := cellKeep hbc HD.out.1; have d1 := cellKeep hbc HD.out.2.1; have d2 := cellKeep hbc HD.out.2.2.1; have d3 := cellKeep hbc HD.out.2.2.2.1; have kk := cellKeep hbc HD.out.2.2.2.2; have f0 := frozenKeep hbc HD.out.1 HFR.out.1; have f1 := frozenKeep hbc HD.out.2.1 HFR.out.2.1; have f2 := frozenKeep hbc HD.out.2.2.1 HFR.out.2.2.1; have f3 := frozenKeep hbc HD.out.2.2.2.1 HFR.out.2.2.2)
    all_goals
      have HO := Lib.hid (OwnS.of_row hown)
      have HBC := Lib.hid hbc
      clear hown hbc
      try go_wp2_with fail
      refine bodyPost_ret (v := .tuple #[.agg #[.int .i64 k, .slice none 0 0, .slice Ac es.length cc, .int .i64 0], .bool true]) ?_ rfl ⟨Ac, cc, rfl, ?_, ?_⟩
      · simp [results, Try.results57, go_sem, cell_set_ne, set_some, isSome_keep, some_of d0, some_of d1, some_of d2, some_of d3]
      · exact (((((HO.out.mono (base' := w.heap.size + 2) (by have h := HS1.out; first | exact h | (simp; omega))).setLow (by omega)).setLow (by omega)).setLow (by omega)).setLow (by omega)).mono (by omega)
      · exact ((((HB.out.trans ((Below.drew (Below.refl w1.heap.size w1)).trans HBC.out |>.mono HB.out.size)).setCell (by simp <;> omega) _).setCell (by simp <;> omega) _).setCell (by simp <;> omega) _).setCell (by simp <;> omega) _
set_option maxRecDepth 100000 in
set_option maxHeartbeats 8000000 in
theorem completed_c (mx : Int) (k : Int) (ad : Addr) (c : Nat) (es : List M.Rule) (w : World) (hA : Rd w 2 (some ad) es.length (ruls es)) (hl : es.length ≤ 1048576) (hs : ∀ r ∈ es, r.left.length ≤ 1048576 ∧ r.right.length ≤ 1048576) (hmx : w.cell? ⟨0, 0, none⟩ = some (.int .i64 mx)) :
    Calls Try.prog 109 #[.int .i64 k, .slice (some ad) es.length c] w (RetTurn 84 (M.startK k es) (M.run k es) w) := by
  have HA := Lib.hid (fun W (hb : Below w.heap.size w W) => hA.below hb)
  have HST := Lib.hid (fun W h => impl_StartWork_s k ad c es W h hl hs)
  have HMX := Lib.hid (fun W (hb : Below w.heap.size w W) => cellKeep hb hmx)
  clear hmx
  have HBD := Lib.hid (show Bd [] es from ⟨by simp, fun r hr => by simp at hr, hl, hs⟩)
  have H0 := Lib.hid (show ResF w (w.alloc (.cells #[.int .i64 0, .slice none 0 0, .slice none 0 0, .int .i64 0] 60)) from ⟨⟨by simp [go_sem], by simp [go_sem], by simp [go_sem], by simp [go_sem]⟩, ⟨by simp [go_sem], by simp [go_sem], by simp [go_sem], by simp [go_sem]⟩, by simp, below_al (Below.refl _ _) _⟩)
  obtain ⟨n0, hn0⟩ : ∃ n0, n0 = es.length := ⟨_, rfl⟩
  have HN0 := Lib.hid hn0
  rw [← hn0] at HA HST ⊢
  clear hA hl hs hn0
  obtain ⟨X, hX⟩ : ∃ X, X = M.run k es := ⟨_, rfl⟩
  rw [← hX]
  have HX := Lib.hid hX
  clear hX
  cases hso : M.startOk k es with
  | false =>
    rw [(start_no hso).1] at HST ⊢
    rw [(start_no hso).2, hso] at HST
    have hX := HX.out
    unfold M.run at hX
    rw [if_neg (by rw [hso]; simp)] at hX
    subst hX
    unfold RetStartS at HST
    simp only [List.length_nil] at HST
    clear HX HBD hso HN0
    go_enter Try.func109, Try.ntmps109
    go_wp2_with fail
    refine (HST.out _ (HA.out _ H0.out.2.2.2)).mono ?_
    rintro e w1 ⟨A1, c1, rfl, o1, hb⟩
    have Q1 := Lib.hid ((H0.out.below hb).below (ref_al w1 (.cells #[.int .i64 0, .slice none 0 0, .slice A1 0 c1, .int .i64 0] 60)))
    clear hb o1
    obtain ⟨⟨b0, b1, b2, b3⟩, ⟨f0, f1, f2, f3⟩, _, _⟩ := Q1.out
    go_wp2_with fail
    obtain ⟨r1, r2, r3⟩ := Q1.out.fin (e := 84) ownS_none ownS_none (.int .i64 0) (.slice none 0 0) (.slice none 0 0) (.int .i64 0)
    obtain ⟨x0, x1, x2, x3⟩ := Q1.out.res (.int .i64 0) (.slice none 0 0) (.slice none 0 0) (.int .i64 0)
    refine bodyPost_ret (v := .tuple #[.agg #[.int .i64 0, .slice none 0 0, .slice none 0 0, .int .i64 0], .int .i64 4]) (by simp [results, Try.results109, go_sem, x0, x1, x2, x3]) rfl ⟨none, 0, none, 0, rfl, r1, r2, fun y h1 h2 => by simp [blkS] at h1, r3⟩
  | true =>
  rw [(start_yes hso).1] at HST ⊢
  rw [(start_yes hso).2, hso] at HST
  have HX2 := Lib.hid (show M.runTo k 201 [] es 0 = X from by rw [HX.out]; unfold M.run; rw [if_pos hso])
  unfold RetStartS at HST
  clear HX hso
  have HTW := Lib.hid (fun W rs qs t A c B d hA hB (hd : qs.length ≤ d) (hb : Bd rs qs) (hW : Below w.heap.size w W) => impl_TurnWork_c mx k A c rs B d qs t W hA hB hd hb.1 hb.2.1 hb.2.2.1 hb.2.2.2 (HMX.out W hW))
  go_enter Try.func109, Try.ntmps109
  go_wp2_with fail
  refine (HST.out _ (HA.out _ H0.out.2.2.2)).mono ?_
  rintro e w1 ⟨A1, c1, rfl, o1, hb⟩
  rw [← HN0.out] at o1
  have Q1 := Lib.hid ((H0.out.below hb).below (ref_al w1 (.cells #[.int .i64 k, .slice none 0 0, .slice A1 es.length c1, .int .i64 0] 60)))
  have HO := Lib.hid (show OutQ 84 60 (w.heap.size + 1) (w1.alloc (.cells #[.int .i64 k, .slice none 0 0, .slice A1 es.length c1, .int .i64 0] 60)) w1.heap.size k none 0 0 (ruls []) A1 es.length c1 (ruls es) 0 from
    OutQ.made (ownS_none) ((by rw [HN0.out] at o1; exact o1 : OwnS w1 _ 84 2 A1 es.length c1 (ruls es)).mono (by have := H0.out.2.2.1; simp)) (fun y h1 h2 => by simp [blkS] at h1) (by have := (H0.out.below hb).2.2.1; exact this))
  clear hb o1 HST HA
  go_wp2_with fail
  generalize w1.alloc (.cells #[.int .i64 k, .slice none 0 0, .slice A1 es.length c1, .int .i64 0] 60) = w2 at *
  generalize w1.heap.size = g6 at *
  go_loopw [9] (fun z wr => ∃ (rs qs : List M.Rule) (t : Int) (A : Option Addr) (c : Nat) (B : Option Addr) (d : Nat), ResF w wr ∧ OutQ 84 60 (w.heap.size + 1) wr g6 k A rs.length c (ruls rs) B qs.length d (ruls qs) t ∧ Bd rs qs ∧ (0 ≤ t ∧ t ≤ 200) ∧ M.runTo k (201 - t.toNat) rs qs t = X) (fun z wr => 201 - cellI (wr.cell? ⟨g6, 3, none⟩))
  case atStart => exact ⟨[], es, 0, none, 0, A1, c1, Q1.out, HO.out, HBD.out, ⟨by omega, by omega⟩, HX2.out⟩
  case round =>
    clear Q1 HO HBD HX2
    obtain ⟨rs, qs, t, A, c2, B, d, hr, hq, hbd, ht, hx⟩ := hrel
    have HR := Lib.hid hr
    have HQ := Lib.hid hq
    have HB := Lib.hid hbd
    have HXR := Lib.hid hx
    clear hr hq hbd hx
    have hf : 201 - t.toNat = (200 - t.toNat) + 1 := by omega
    rw [hf] at HXR
    clear hf
    obtain ⟨s0, s1, s2, s3⟩ := HQ.out.tab
    by_cases hqe : qs = []
    case pos =>
      subst hqe
      have hx := HXR.out
      rw [runTo_end] at hx
      subst hx
      clear HXR HTW
      obtain ⟨⟨b0, b1, b2, b3⟩, ⟨f0, f1, f2, f3⟩, _, _⟩ := HR.out
      have ha := HQ.out.2.2.2.2
      simp only [List.length_nil] at s2
      go_wp2_with fail
      have HR2 := HR
      have HQ2 := HQ
      obtain ⟨r1, r2, r3⟩ := HR2.out.fin HQ2.out.2.2.1 HQ2.out.2.2.2.1 (.int .i64 k) (.slice A rs.length c2) (.slice B 0 d) (.int .i64 (t))
      obtain ⟨x0, x1, x2, x3⟩ := HR2.out.res (.int .i64 k) (.slice A rs.length c2) (.slice B 0 d) (.int .i64 (t))
      refine bodyPost_ret (v := .tuple #[.agg #[.int .i64 k, .slice A rs.length c2, .slice B 0 d, .int .i64 (t)], .int .i64 0]) (by simp [results, Try.results109, go_sem, x0, x1, x2, x3]) rfl ⟨A, c2, B, d, rfl, r1, r2, ha, r3⟩
    case neg =>
      have hm0 : (0 : Int) < (qs.length : Int) := by have := List.length_pos_iff.2 hqe; omega
      go_wp2_with fail
      refine (HTW.out _ rs qs t A c2 B d HQ.out.2.2.1.own.rd HQ.out.2.2.2.1.own.rd HQ.out.2.2.2.1.2.1 HB.out HR.out.2.2.2).mono ?_
      rintro e w3 ⟨A3, c3, B3, d3, rfl, o1, o2, hap, hb⟩
      have hok := fun hc => turn_ok (k := k) (t := t) (rs := rs) hqe hc
      have hstop := fun hc => runTo_stop (k := k) (f := 200 - t.toNat) (rs := rs) (t := t) hqe hc
      have hgo := fun hc => runTo_go (k := k) (f := 200 - t.toNat) (rs := rs) (t := t) hqe hc
      generalize M.turn k rs qs t = y at *
      obtain ⟨rs', qs', t', code⟩ := y
      simp only at o1 o2 hok hstop hgo ⊢
      have P1 := Lib.hid (o1.mono (base' := w.heap.size + 1) HR.out.2.2.1)
      have P2 := Lib.hid (o2.mono (base' := w.heap.size + 1) HR.out.2.2.1)
      have HAP := Lib.hid hap
      have HR3 := Lib.hid ((HR.out.below hb).below (ref_al w3 (.cells #[.int .i64 k, .slice A3 rs'.length c3, .slice B3 qs'.length d3, .int .i64 t'] 60)))
      have HQ3 := Lib.hid ((HQ.out.below hb).below (ref_al w3 (.cells #[.int .i64 k, .slice A3 rs'.length c3, .slice B3 qs'.length d3, .int .i64 t'] 60)))
      have P1' := Lib.hid (P1.out.below (ref_al w3 (.cells #[.int .i64 k, .slice A3 rs'.length c3, .slice B3 qs'.length d3, .int .i64 t'] 60)))
      have P2' := Lib.hid (P2.out.below (ref_al w3 (.cells #[.int .i64 k, .slice A3 rs'.length c3, .slice B3 qs'.length d3, .int .i64 t'] 60)))
      clear o1 o2 hap hb s0 s1 s2 s3 hm0 HTW
      obtain ⟨s0, s1, s2, s3⟩ := HQ3.out.tab
      have gf := HQ3.out.free
      have HOKH := Lib.hid hok
      have HSTH := Lib.hid hstop
      have HGOH := Lib.hid hgo
      clear hok hstop hgo
      by_cases hc : code = 0
      case neg =>
        have hx := HXR.out
        rw [HSTH.out hc] at hx
        subst hx
        have hc' : (code != 0) = true := by simpa using hc
        have hc2 : (code == 0) = false := by simpa using hc
        clear HXR HOKH HSTH HGOH
        obtain ⟨⟨b0, b1, b2, b3⟩, ⟨f0, f1, f2, f3⟩, _, _⟩ := HR3.out
        have ha := HQ3.out.2.2.2.2
        go_wp2_with fail
        have HR2 := HR3
        have HQ2 := HQ3
        obtain ⟨r1, r2, r3⟩ := HR2.out.fin HQ2.out.2.2.1 HQ2.out.2.2.2.1 (.int .i64 k) (.slice A rs.length c2) (.slice B qs.length d) (.int .i64 (t))
        obtain ⟨x0, x1, x2, x3⟩ := HR2.out.res (.int .i64 k) (.slice A rs.length c2) (.slice B qs.length d) (.int .i64 (t))
        refine bodyPost_ret (v := .tuple #[.agg #[.int .i64 k, .slice A rs.length c2, .slice B qs.length d, .int .i64 (t)], .int .i64 code]) (by simp [results, Try.results109, go_sem, x0, x1, x2, x3]) rfl ⟨A, c2, B, d, rfl, r1, r2, ha, r3⟩
      case pos =>
        subst hc
        have hx := HXR.out
        rw [HGOH.out rfl] at hx
        obtain ⟨_, ht2, hwk, ht3⟩ := HOKH.out rfl
        have HXE := Lib.hid hx
        have HWK := Lib.hid (bd_ok hwk)
        have hte : (201 : Nat) - t'.toNat = 200 - t.toNat := by omega
        have HTE := Lib.hid hte
        have HT3 := Lib.hid (show (0 ≤ t' ∧ t' ≤ 200) ∧ t' = t + 1 from ⟨by omega, ht3⟩)
        clear hx HXR HOKH HSTH HGOH hwk hte ht3
        have HZ := Lib.hid (HQ3.out.over (k' := k) (t' := t') (by decide) P1'.out P2'.out HAP.out)
        have HRZ := Lib.hid ((((HR3.out.setAt HQ3.out.2.1 0 (.int .i64 k)).setAt HQ3.out.2.1 1 (.slice A3 rs'.length c3)).setAt HQ3.out.2.1 2 (.slice B3 qs'.length d3)).setAt HQ3.out.2.1 3 (.int .i64 t'))
        obtain ⟨v1, v2, v3⟩ := HQ3.out.tab4 (.int .i64 k) (.slice A3 rs'.length c3) (.slice B3 qs'.length d3) (.int .i64 t')
        have s3o := HQ.out.tab.2.2.2
        try go_wp2_with fail
        go_roundw
        case rel => exact ⟨rs', qs', t', A3, c3, B3, d3, HRZ.out, HZ.out, HWK.out, HT3.out.1, by rw [HTE.out]; exact HXE.out⟩
        case measure => rw [HZ.out.tab.2.2.2, s3o]; have := HT3.out; simp only [cellI]; omega
set_option maxRecDepth 100000 in
set_option maxHeartbeats 8000000 in
theorem l06Run_c (k : Int) (ad : Addr) (c : Nat) (es : List M.Rule) (w : World) (hA : Rd w 2 (some ad) es.length (ruls es)) (hl : es.length ≤ 1048576) (hs : ∀ r ∈ es, r.left.length ≤ 1048576 ∧ r.right.length ≤ 1048576) :
    Calls Try.prog 107 #[.int .i64 k, .slice (some ad) es.length c] w (RetTurn 84 (M.startK k es) (M.run k es) w) := by
  have HA := Lib.hid (fun W (hb : Below w.heap.size w W) => hA.below hb)
  have HST := Lib.hid (fun W h => spec_StartWork_s k ad c es W h hl hs)
  have HBD := Lib.hid (show Bd [] es from ⟨by simp, fun r hr => by simp at hr, hl, hs⟩)
  have H0 := Lib.hid (show ResF w (w.alloc (.cells #[.int .i64 0, .slice none 0 0, .slice none 0 0, .int .i64 0] 60)) from ⟨⟨by simp [go_sem], by simp [go_sem], by simp [go_sem], by simp [go_sem]⟩, ⟨by simp [go_sem], by simp [go_sem], by simp [go_sem], by simp [go_sem]⟩, by simp, below_al (Below.refl _ _) _⟩)
  obtain ⟨n0, hn0⟩ : ∃ n0, n0 = es.length := ⟨_, rfl⟩
  have HN0 := Lib.hid hn0
  rw [← hn0] at HA HST ⊢
  clear hA hl hs hn0
  obtain ⟨X, hX⟩ : ∃ X, X = M.run k es := ⟨_, rfl⟩
  rw [← hX]
  have HX := Lib.hid hX
  clear hX
  cases hso : M.startOk k es with
  | false =>
    rw [(start_no hso).1] at HST ⊢
    rw [(start_no hso).2, hso] at HST
    have hX := HX.out
    unfold M.run at hX
    rw [if_neg (by rw [hso]; simp)] at hX
    subst hX
    unfold RetStartS at HST
    simp only [List.length_nil] at HST
    clear HX HBD hso HN0
    go_enter Try.func107, Try.ntmps107
    go_wp2_with fail
    refine (HST.out _ (HA.out _ H0.out.2.2.2)).mono ?_
    rintro e w1 ⟨A1, c1, rfl, o1, hb⟩
    have Q1 := Lib.hid ((H0.out.below hb).below (ref_al w1 (.cells #[.int .i64 0, .slice none 0 0, .slice A1 0 c1, .int .i64 0] 60)))
    clear hb o1
    obtain ⟨⟨b0, b1, b2, b3⟩, ⟨f0, f1, f2, f3⟩, _, _⟩ := Q1.out
    go_wp2_with fail
    obtain ⟨r1, r2, r3⟩ := Q1.out.fin (e := 84) ownS_none ownS_none (.int .i64 0) (.slice none 0 0) (.slice none 0 0) (.int .i64 0)
    obtain ⟨x0, x1, x2, x3⟩ := Q1.out.res (.int .i64 0) (.slice none 0 0) (.slice none 0 0) (.int .i64 0)
    refine bodyPost_ret (v := .tuple #[.agg #[.int .i64 0, .slice none 0 0, .slice none 0 0, .int .i64 0], .int .i64 4]) (by simp [results, Try.results107, go_sem, x0, x1, x2, x3]) rfl ⟨none, 0, none, 0, rfl, r1, r2, fun y h1 h2 => by simp [blkS] at h1, r3⟩
  | true =>
  rw [(start_yes hso).1] at HST ⊢
  rw [(start_yes hso).2, hso] at HST
  have HX2 := Lib.hid (show M.runTo k 201 [] es 0 = X from by rw [HX.out]; unfold M.run; rw [if_pos hso])
  unfold RetStartS at HST
  clear HX hso
  have HTW := Lib.hid (fun W rs qs t A c B d hA hB (hd : qs.length ≤ d) (hb : Bd rs qs) => spec_TurnWork_c k A c rs B d qs t W hA hB hb.1 hb.2.1 hb.2.2.1 hb.2.2.2)
  go_enter Try.func107, Try.ntmps107
  go_wp2_with fail
  refine (HST.out _ (HA.out _ H0.out.2.2.2)).mono ?_
  rintro e w1 ⟨A1, c1, rfl, o1, hb⟩
  rw [← HN0.out] at o1
  have Q1 := Lib.hid ((H0.out.below hb).below (ref_al w1 (.cells #[.int .i64 k, .slice none 0 0, .slice A1 es.length c1, .int .i64 0] 60)))
  have HO := Lib.hid (show OutQ 84 60 (w.heap.size + 1) (w1.alloc (.cells #[.int .i64 k, .slice none 0 0, .slice A1 es.length c1, .int .i64 0] 60)) w1.heap.size k none 0 0 (ruls []) A1 es.length c1 (ruls es) 0 from
    OutQ.made (ownS_none) ((by rw [HN0.out] at o1; exact o1 : OwnS w1 _ 84 2 A1 es.length c1 (ruls es)).mono (by have := H0.out.2.2.1; simp)) (fun y h1 h2 => by simp [blkS] at h1) (by have := (H0.out.below hb).2.2.1; exact this))
  clear hb o1 HST HA
  go_wp2_with fail
  generalize w1.alloc (.cells #[.int .i64 k, .slice none 0 0, .slice A1 es.length c1, .int .i64 0] 60) = w2 at *
  generalize w1.heap.size = g6 at *
  go_loopw [9] (fun z wr => ∃ (rs qs : List M.Rule) (t : Int) (A : Option Addr) (c : Nat) (B : Option Addr) (d : Nat), ResF w wr ∧ OutQ 84 60 (w.heap.size + 1) wr g6 k A rs.length c (ruls rs) B qs.length d (ruls qs) t ∧ Bd rs qs ∧ (0 ≤ t ∧ t ≤ 200) ∧ M.runTo k (201 - t.toNat) rs qs t = X) (fun z wr => 201 - cellI (wr.cell? ⟨g6, 3, none⟩))
  case atStart => exact ⟨[], es, 0, none, 0, A1, c1, Q1.out, HO.out, HBD.out, ⟨by omega, by omega⟩, HX2.out⟩
  case round =>
    clear Q1 HO HBD HX2
    obtain ⟨rs, qs, t, A, c2, B, d, hr, hq, hbd, ht, hx⟩ := hrel
    have HR := Lib.hid hr
    have HQ := Lib.hid hq
    have HB := Lib.hid hbd
    have HXR := Lib.hid hx
    clear hr hq hbd hx
    have hf : 201 - t.toNat = (200 - t.toNat) + 1 := by omega
    rw [hf] at HXR
    clear hf
    obtain ⟨s0, s1, s2, s3⟩ := HQ.out.tab
    by_cases hqe : qs = []
    case pos =>
      subst hqe
      have hx := HXR.out
      rw [runTo_end] at hx
      subst hx
      clear HXR HTW
      obtain ⟨⟨b0, b1, b2, b3⟩, ⟨f0, f1, f2, f3⟩, _, _⟩ := HR.out
      have ha := HQ.out.2.2.2.2
      simp only [List.length_nil] at s2
      go_wp2_with fail
      have HR2 := HR
      have HQ2 := HQ
      obtain ⟨r1, r2, r3⟩ := HR2.out.fin HQ2.out.2.2.1 HQ2.out.2.2.2.1 (.int .i64 k) (.slice A rs.length c2) (.slice B 0 d) (.int .i64 (t))
      obtain ⟨x0, x1, x2, x3⟩ := HR2.out.res (.int .i64 k) (.slice A rs.length c2) (.slice B 0 d) (.int .i64 (t))
      refine bodyPost_ret (v := .tuple #[.agg #[.int .i64 k, .slice A rs.length c2, .slice B 0 d, .int .i64 (t)], .int .i64 0]) (by simp [results, Try.results107, go_sem, x0, x1, x2, x3]) rfl ⟨A, c2, B, d, rfl, r1, r2, ha, r3⟩
    case neg =>
      have hm0 : (0 : Int) < (qs.length : Int) := by have := List.length_pos_iff.2 hqe; omega
      go_wp2_with fail
      refine (HTW.out _ rs qs t A c2 B d HQ.out.2.2.1.own.rd HQ.out.2.2.2.1.own.rd HQ.out.2.2.2.1.2.1 HB.out).mono ?_
      rintro e w3 ⟨A3, c3, B3, d3, rfl, o1, o2, hap, hb⟩
      have hok := fun hc => turn_ok (k := k) (t := t) (rs := rs) hqe hc
      have hstop := fun hc => runTo_stop (k := k) (f := 200 - t.toNat) (rs := rs) (t := t) hqe hc
      have hgo := fun hc => runTo_go (k := k) (f := 200 - t.toNat) (rs := rs) (t := t) hqe hc
      generalize M.turn k rs qs t = y at *
      obtain ⟨rs', qs', t', code⟩ := y
      simp only at o1 o2 hok hstop hgo ⊢
      have P1 := Lib.hid (o1.mono (base' := w.heap.size + 1) HR.out.2.2.1)
      have P2 := Lib.hid (o2.mono (base' := w.heap.size + 1) HR.out.2.2.1)
      have HAP := Lib.hid hap
      have HR3 := Lib.hid ((HR.out.below hb).below (ref_al w3 (.cells #[.int .i64 k, .slice A3 rs'.length c3, .slice B3 qs'.length d3, .int .i64 t'] 60)))
      have HQ3 := Lib.hid ((HQ.out.below hb).below (ref_al w3 (.cells #[.int .i64 k, .slice A3 rs'.length c3, .slice B3 qs'.length d3, .int .i64 t'] 60)))
      have P1' := Lib.hid (P1.out.below (ref_al w3 (.cells #[.int .i64 k, .slice A3 rs'.length c3, .slice B3 qs'.length d3, .int .i64 t'] 60)))
      have P2' := Lib.hid (P2.out.below (ref_al w3 (.cells #[.int .i64 k, .slice A3 rs'.length c3, .slice B3 qs'.length d3, .int .i64 t'] 60)))
      clear o1 o2 hap hb s0 s1 s2 s3 hm0 HTW
      obtain ⟨s0, s1, s2, s3⟩ := HQ3.out.tab
      have gf := HQ3.out.free
      have HOKH := Lib.hid hok
      have HSTH := Lib.hid hstop
      have HGOH := Lib.hid hgo
      clear hok hstop hgo
      by_cases hc : code = 0
      case neg =>
        have hx := HXR.out
        rw [HSTH.out hc] at hx
        subst hx
        have hc' : (code != 0) = true := by simpa using hc
        have hc2 : (code == 0) = false := by simpa using hc
        clear HXR HOKH HSTH HGOH
        obtain ⟨⟨b0, b1, b2, b3⟩, ⟨f0, f1, f2, f3⟩, _, _⟩ := HR3.out
        have ha := HQ3.out.2.2.2.2
        go_wp2_with fail
        have HR2 := HR3
        have HQ2 := HQ3
        obtain ⟨r1, r2, r3⟩ := HR2.out.fin HQ2.out.2.2.1 HQ2.out.2.2.2.1 (.int .i64 k) (.slice A rs.length c2) (.slice B qs.length d) (.int .i64 (t))
        obtain ⟨x0, x1, x2, x3⟩ := HR2.out.res (.int .i64 k) (.slice A rs.length c2) (.slice B qs.length d) (.int .i64 (t))
        refine bodyPost_ret (v := .tuple #[.agg #[.int .i64 k, .slice A rs.length c2, .slice B qs.length d, .int .i64 (t)], .int .i64 code]) (by simp [results, Try.results107, go_sem, x0, x1, x2, x3]) rfl ⟨A, c2, B, d, rfl, r1, r2, ha, r3⟩
      case pos =>
        subst hc
        have hx := HXR.out
        rw [HGOH.out rfl] at hx
        obtain ⟨_, ht2, hwk, ht3⟩ := HOKH.out rfl
        have HXE := Lib.hid hx
        have HWK := Lib.hid (bd_ok hwk)
        have hte : (201 : Nat) - t'.toNat = 200 - t.toNat := by omega
        have HTE := Lib.hid hte
        have HT3 := Lib.hid (show (0 ≤ t' ∧ t' ≤ 200) ∧ t' = t + 1 from ⟨by omega, ht3⟩)
        clear hx HXR HOKH HSTH HGOH hwk hte ht3
        have HZ := Lib.hid (HQ3.out.over (k' := k) (t' := t') (by decide) P1'.out P2'.out HAP.out)
        have HRZ := Lib.hid ((((HR3.out.setAt HQ3.out.2.1 0 (.int .i64 k)).setAt HQ3.out.2.1 1 (.slice A3 rs'.length c3)).setAt HQ3.out.2.1 2 (.slice B3 qs'.length d3)).setAt HQ3.out.2.1 3 (.int .i64 t'))
        obtain ⟨v1, v2, v3⟩ := HQ3.out.tab4 (.int .i64 k) (.slice A3 rs'.length c3) (.slice B3 qs'.length d3) (.int .i64 t')
        have s3o := HQ.out.tab.2.2.2
        try go_wp2_with fail
        go_roundw
        case rel => exact ⟨rs', qs', t', A3, c3, B3, d3, HRZ.out, HZ.out, HWK.out, HT3.out.1, by rw [HTE.out]; exact HXE.out⟩
        case measure => rw [HZ.out.tab.2.2.2, s3o]; have := HT3.out; simp only [cellI]; omega
end Go.Proofs.Ytlohpphmamapeaa
/-
  Contracts of Complete and TurnsFor, of the program and of the reference.
  Conditions: at most 2^20 equations of at most 2^20 letters; the global MaxLen holds an int.
-/
namespace Go.Proofs.Ytlohpphmamapeaa
open Go.RowKit
set_option linter.unusedVariables false
set_option linter.unusedSimpArgs false

/-- What Complete returns: the system, its rules its own, and the code. -/
def RetComp (e : TypeId) (k : Int) (x : M.Wk) (w : World) (r : Ending) (w' : World) : Prop :=
  ∃ A c, r = .returned (.tuple #[.agg #[.int .i64 k, .slice A x.rs.length c], .int .i64 x.code]) ∧ OwnS w' w.heap.size e 2 A x.rs.length c (ruls x.rs) ∧ Below w.heap.size w w'
def M.turnsOf (x : M.Wk) : Int := if x.code = 0 then x.t else -1
theorem runTo_size {k : Int} : ∀ (f : Nat) {rs qs : List M.Rule} {t : Int}, rs.length ≤ 1048576 → qs.length ≤ 1048576 → (M.runTo k f rs qs t).rs.length ≤ 1048576 ∧ (M.runTo k f rs qs t).qs.length ≤ 1048576
  | 0, rs, qs, t, h1, h2 => ⟨h1, h2⟩
  | f + 1, rs, qs, t, h1, h2 => by
    rw [M.runTo]
    have h := turn_size (k := k) (t := t) h1 h2
    split
    · exact ⟨h1, h2⟩
    · split
      · exact runTo_size f h.1 h.2
      · exact ⟨h1, h2⟩
theorem run_size {k : Int} {es : List M.Rule} (h : es.length ≤ 1048576) : (M.run k es).rs.length ≤ 1048576 := by
  unfold M.run
  split
  · exact (runTo_size 201 (by simp) h).1
  · simp
set_option maxRecDepth 100000 in
set_option maxHeartbeats 4000000 in
theorem spec_Complete_c (k : Int) (ad : Addr) (c : Nat) (es : List M.Rule) (w : World) (hA : Rd w 2 (some ad) es.length (ruls es)) (hl : es.length ≤ 1048576) (hs : ∀ r ∈ es, r.left.length ≤ 1048576 ∧ r.right.length ≤ 1048576) :
    Calls Try.prog 49 #[.int .i64 k, .slice (some ad) es.length c] w (RetComp 84 (M.startK k es) (M.run k es) w) := by
  have HA := Lib.hid (fun W (hb : Below w.heap.size w W) => hA.below hb)
  have HR := Lib.hid (fun W h => l06Run_c k ad c es W h hl hs)
  clear hA
  unfold RetComp
  generalize M.startK k es = sk at *
  generalize M.run k es = X at *
  obtain ⟨ys, zs, tt, code⟩ := X
  simp only at HR ⊢
  unfold RetTurn at HR
  simp only at HR
  go_enter Try.func49, Try.ntmps49
  go_wp2_with fail
  refine (HR.out _ (HA.out _ (below_al (Below.refl _ _) _))).mono ?_
  rintro e w1 ⟨A, c1, B, d, rfl, o1, o2, hap, hb⟩
  have b0 : w1.cell? ⟨w.heap.size, 0, none⟩ = some (.int .i64 0) := cellKeep hb (by simp [go_sem])
  have b1 : w1.cell? ⟨w.heap.size, 1, none⟩ = some (.slice none 0 0) := cellKeep hb (by simp [go_sem])
  have f0 : w1.frozen? ⟨w.heap.size, 0, none⟩ = false := ((bcell hb).2 _ _ (by simp)).trans (by simp [go_sem])
  have f1 : w1.frozen? ⟨w.heap.size, 1, none⟩ = false := ((bcell hb).2 _ _ (by simp)).trans (by simp [go_sem])
  have AL := ref_al w1 (.cells #[.int .i64 sk, .slice A ys.length c1, .slice B zs.length d, .int .i64 tt] 60)
  have g0 := cellKeep AL b0
  have g1 := cellKeep AL b1
  have gf0 := frozenKeep AL b0 f0
  have gf1 := frozenKeep AL b1 f1
  have HO := Lib.hid (o1.below AL)
  have HB := Lib.hid ((below_al (Below.refl w.heap.size w) (.cells #[.int .i64 0, .slice none 0 0] 28)).trans ((hb.trans (AL.mono hb.size)).mono (by simp)))
  clear o1 o2 hap hb AL b0 b1 f0 f1
  go_wp2_with fail
  have r0 := (cell_set_ne (b := w.heap.size) (o := 1) (.slice A ys.length c1) (Or.inr (show (1 : Nat) ≠ 0 by decide))).trans (cell_set_eq (.int .i64 sk) g0)
  have r1 := cell_two' g1 (.int .i64 sk) (.slice A ys.length c1)
  refine bodyPost_ret (v := .tuple #[.agg #[.int .i64 sk, .slice A ys.length c1], .int .i64 code]) (by simp [results, Try.results49, go_sem, r0, r1]) rfl ⟨A, c1, rfl, ?_, ?_⟩
  · exact ((HO.out.setLow (by simp)).setLow (by simp)).mono (by simp)
  · exact (HB.out.setCell (by simp) _).setCell (by simp) _
set_option maxRecDepth 100000 in
set_option maxHeartbeats 4000000 in
theorem spec_TurnsFor_c (k : Int) (ad : Addr) (c : Nat) (es : List M.Rule) (w : World) (hA : Rd w 2 (some ad) es.length (ruls es)) (hl : es.length ≤ 1048576) (hs : ∀ r ∈ es, r.left.length ≤ 1048576 ∧ r.right.length ≤ 1048576) :
    Calls Try.prog 54 #[.int .i64 k, .slice (some ad) es.length c] w fun e w' => e = .returned (.int .i64 (M.turnsOf (M.run k es))) ∧ Below w.heap.size w w' := by
  have HA := Lib.hid hA
  have HR := Lib.hid (fun W h => l06Run_c k ad c es W h hl hs)
  clear hA
  unfold M.turnsOf
  generalize M.startK k es = sk at *
  generalize M.run k es = X at *
  obtain ⟨ys, zs, tt, code⟩ := X
  simp only at HR ⊢
  unfold RetTurn at HR
  simp only at HR
  by_cases hc : code = 0
  case pos =>
    rw [if_pos hc]
    subst hc
    go_enter Try.func54, Try.ntmps54
    go_wp2_with fail
    refine (HR.out _ HA.out).mono ?_
    rintro e w1 ⟨A, c1, B, d, rfl, o1, o2, hap, hb⟩
    have HB := Lib.hid (hb.trans ((ref_al w1 (.cells #[.int .i64 sk, .slice A ys.length c1, .slice B zs.length d, .int .i64 tt] 60)).mono hb.size))
    clear o1 o2 hap hb
    go_wp2_with fail
    go_ret
    exact ⟨rfl, HB.out⟩
  case neg =>
    rw [if_neg hc]
    have hc1 : (code != 0) = true := by simpa using hc
    go_enter Try.func54, Try.ntmps54
    go_wp2_with fail
    refine (HR.out _ HA.out).mono ?_
    rintro e w1 ⟨A, c1, B, d, rfl, o1, o2, hap, hb⟩
    have HB := Lib.hid (hb.trans ((ref_al w1 (.cells #[.int .i64 sk, .slice A ys.length c1, .slice B zs.length d, .int .i64 tt] 60)).mono hb.size))
    clear o1 o2 hap hb
    go_wp2_with fail
    go_ret
    exact ⟨rfl, HB.out⟩
set_option maxRecDepth 100000 in
set_option maxHeartbeats 4000000 in
theorem impl_Complete_c (mx : Int) (k : Int) (ad : Addr) (c : Nat) (es : List M.Rule) (w : World) (hA : Rd w 2 (some ad) es.length (ruls es)) (hl : es.length ≤ 1048576) (hs : ∀ r ∈ es, r.left.length ≤ 1048576 ∧ r.right.length ≤ 1048576) (hmx : w.cell? ⟨0, 0, none⟩ = some (.int .i64 mx)) :
    Calls Try.prog 51 #[.int .i64 k, .slice (some ad) es.length c] w (RetComp 84 (M.startK k es) (M.run k es) w) := by
  have HA := Lib.hid (fun W (hb : Below w.heap.size w W) => hA.below hb)
  have HR := Lib.hid (fun W h hm => completed_c mx k ad c es W h hl hs hm)
  have HMX := Lib.hid (fun W (hb : Below w.heap.size w W) => cellKeep hb hmx)
  clear hA hmx
  unfold RetComp
  generalize M.startK k es = sk at *
  generalize M.run k es = X at *
  obtain ⟨ys, zs, tt, code⟩ := X
  simp only at HR ⊢
  unfold RetTurn at HR
  simp only at HR
  go_enter Try.func51, Try.ntmps51
  go_wp2_with fail
  refine (HR.out _ (HA.out _ (below_al (Below.refl _ _) _)) (HMX.out _ (below_al (Below.refl _ _) _))).mono ?_
  rintro e w1 ⟨A, c1, B, d, rfl, o1, o2, hap, hb⟩
  have b0 : w1.cell? ⟨w.heap.size, 0, none⟩ = some (.int .i64 0) := cellKeep hb (by simp [go_sem])
  have b1 : w1.cell? ⟨w.heap.size, 1, none⟩ = some (.slice none 0 0) := cellKeep hb (by simp [go_sem])
  have f0 : w1.frozen? ⟨w.heap.size, 0, none⟩ = false := ((bcell hb).2 _ _ (by simp)).trans (by simp [go_sem])
  have f1 : w1.frozen? ⟨w.heap.size, 1, none⟩ = false := ((bcell hb).2 _ _ (by simp)).trans (by simp [go_sem])
  have AL := ref_al w1 (.cells #[.int .i64 sk, .slice A ys.length c1, .slice B zs.length d, .int .i64 tt] 60)
  have g0 := cellKeep AL b0
  have g1 := cellKeep AL b1
  have gf0 := frozenKeep AL b0 f0
  have gf1 := frozenKeep AL b1 f1
  have HO := Lib.hid (o1.below AL)
  have HB := Lib.hid ((below_al (Below.refl w.heap.size w) (.cells #[.int .i64 0, .slice none 0 0] 28)).trans ((hb.trans (AL.mono hb.size)).mono (by simp)))
  clear o1 o2 hap hb AL b0 b1 f0 f1
  go_wp2_with fail
  have r0 := (cell_set_ne (b := w.heap.size) (o := 1) (.slice A ys.length c1) (Or.inr (show (1 : Nat) ≠ 0 by decide))).trans (cell_set_eq (.int .i64 sk) g0)
  have r1 := cell_two' g1 (.int .i64 sk) (.slice A ys.length c1)
  refine bodyPost_ret (v := .tuple #[.agg #[.int .i64 sk, .slice A ys.length c1], .int .i64 code]) (by simp [results, Try.results51, go_sem, r0, r1]) rfl ⟨A, c1, rfl, ?_, ?_⟩
  · exact ((HO.out.setLow (by simp)).setLow (by simp)).mono (by simp)
  · exact (HB.out.setCell (by simp) _).setCell (by simp) _
set_option maxRecDepth 100000 in
set_option maxHeartbeats 4000000 in
theorem impl_TurnsFor_c (mx : Int) (k : Int) (ad : Addr) (c : Nat) (es : List M.Rule) (w : World) (hA : Rd w 2 (some ad) es.length (ruls es)) (hl : es.length ≤ 1048576) (hs : ∀ r ∈ es, r.left.length ≤ 1048576 ∧ r.right.length ≤ 1048576) (hmx : w.cell? ⟨0, 0, none⟩ = some (.int .i64 mx)) :
    Calls Try.prog 55 #[.int .i64 k, .slice (some ad) es.length c] w fun e w' => e = .returned (.int .i64 (M.turnsOf (M.run k es))) ∧ Below w.heap.size w w' := by
  have HA := Lib.hid hA
  have HR := Lib.hid (fun W h hm => completed_c mx k ad c es W h hl hs hm)
  have HMX := Lib.hid hmx
  clear hA hmx
  unfold M.turnsOf
  generalize M.startK k es = sk at *
  generalize M.run k es = X at *
  obtain ⟨ys, zs, tt, code⟩ := X
  simp only at HR ⊢
  unfold RetTurn at HR
  simp only at HR
  by_cases hc : code = 0
  case pos =>
    rw [if_pos hc]
    subst hc
    go_enter Try.func55, Try.ntmps55
    go_wp2_with fail
    refine (HR.out _ HA.out HMX.out).mono ?_
    rintro e w1 ⟨A, c1, B, d, rfl, o1, o2, hap, hb⟩
    have HB := Lib.hid (hb.trans ((ref_al w1 (.cells #[.int .i64 sk, .slice A ys.length c1, .slice B zs.length d, .int .i64 tt] 60)).mono hb.size))
    clear o1 o2 hap hb
    go_wp2_with fail
    go_ret
    exact ⟨rfl, HB.out⟩
  case neg =>
    rw [if_neg hc]
    have hc1 : (code != 0) = true := by simpa using hc
    go_enter Try.func55, Try.ntmps55
    go_wp2_with fail
    refine (HR.out _ HA.out HMX.out).mono ?_
    rintro e w1 ⟨A, c1, B, d, rfl, o1, o2, hap, hb⟩
    have HB := Lib.hid (hb.trans ((ref_al w1 (.cells #[.int .i64 sk, .slice A ys.length c1, .slice B zs.length d, .int .i64 tt] 60)).mono hb.size))
    clear o1 o2 hap hb
    go_wp2_with fail
    go_ret
    exact ⟨rfl, HB.out⟩
end Go.Proofs.Ytlohpphmamapeaa
