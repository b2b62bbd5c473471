/-
  Contracts and plain laws for the functions of this seat (texts joined: RunC CompC Make Split Parse Join Text PIntM FmtInt FmtSys PSysM PInt SplitL PushH PSys Eqs Same OpenU8).
  Conditions: each text says its own.
-/
import Derived.BigQuiet
import Derived.IntWalk
import Derived.Lib.IndexMore
import Derived.Lib.IndexBytes
import Derived.StillTailTactics
import Derived.Lib.Join
import Derived.Lib.ItoaMem
import Derived.Lib.ItoaLen
import Derived.Lib.AtoiAllCases
import Derived.Lib.AppendIntMem
import Derived.Lib.AtoiErrMem
import Derived.Lib.SplitLaws
import Derived.Test.YtlohpphmamapeaaMt1
import Derived.Test.YtlohpphmamapeaaMt2
import Derived.Test.YtlohpphmamapeaaMt4
import Derived.Test.YtlohpphmamapeaaMt5
/-
  The completion: turns until the queue is empty, of the program and of the reference.
  Conditions: at most 2^20 equations of at most 2^20 letters; the global MaxLen holds an int.
-/
namespace Go.Proofs.Ytlohpphmamapeaa
open Go.ChangeShapes Go.WideShapes Go.ChangeAt Go.RowKit Go.Joins Go.Deep
set_option linter.unusedVariables false
set_option linter.unusedSimpArgs false

/-- What StartWork returns: the queue its own, with its capacity. -/
def RetStartS (e : TypeId) (sk : Int) (sq : List M.Rule) (so : Bool) (w : World) (x : Ending) (w' : World) : Prop :=
  ∃ A c, x = .returned (.tuple #[.agg #[.int .i64 sk, .slice none 0 0, .slice A sq.length c, .int .i64 0], .bool so]) ∧ OwnS w' w.heap.size e 2 A sq.length c (ruls sq) ∧ Below w.heap.size w w'
theorem ownS_none {w : World} {base size : Nat} {e : TypeId} : OwnS w base e size none 0 0 [] := ⟨by simp, Nat.le_refl _, by simp [maxLen], fun h => by omega⟩
/-- Turns until the queue is empty or a turn fails. -/
def M.runTo (k : Int) : Nat → List M.Rule → List M.Rule → Int → M.Wk
  | 0, rs, qs, t => ⟨rs, qs, t, 0⟩
  | f + 1, rs, qs, t => if qs = [] then ⟨rs, qs, t, 0⟩ else if (M.turn k rs qs t).code = 0 then M.runTo k f (M.turn k rs qs t).rs (M.turn k rs qs t).qs (M.turn k rs qs t).t else ⟨rs, qs, t, (M.turn k rs qs t).code⟩
def M.run (k : Int) (es : List M.Rule) : M.Wk := if M.startOk k es = true then M.runTo k 201 [] es 0 else ⟨[], [], 0, 4⟩
theorem runTo_end {k : Int} {f : Nat} {rs : List M.Rule} {t : Int} : M.runTo k (f + 1) rs [] t = ⟨rs, [], t, 0⟩ := by unfold M.runTo; rw [if_pos rfl]
theorem runTo_stop {k : Int} {f : Nat} {rs qs : List M.Rule} {t : Int} (h : qs ≠ []) (hc : (M.turn k rs qs t).code ≠ 0) : M.runTo k (f + 1) rs qs t = ⟨rs, qs, t, (M.turn k rs qs t).code⟩ := by unfold M.runTo; rw [if_neg h, if_neg hc]
theorem runTo_go {k : Int} {f : Nat} {rs qs : List M.Rule} {t : Int} (h : qs ≠ []) (hc : (M.turn k rs qs t).code = 0) : M.runTo k (f + 1) rs qs t = M.runTo k f (M.turn k rs qs t).rs (M.turn k rs qs t).qs (M.turn k rs qs t).t := by rw [M.runTo, if_neg h, if_pos hc]
/-- Sizes that every call can bear. -/
def Bd (rs qs : List M.Rule) : Prop := rs.length ≤ 1048576 ∧ (∀ r ∈ rs, r.left.length ≤ 1048576 ∧ r.right.length ≤ 1048576) ∧ qs.length ≤ 1048576 ∧ ∀ r ∈ qs, r.left.length ≤ 1048576 ∧ r.right.length ≤ 1048576
theorem bd_ok {k : Int} {rs qs : List M.Rule} {t : Int} (h : M.WorkOk k rs qs t = true) : Bd rs qs := by
  obtain ⟨hs, hl, _, hf⟩ := work_iff.1 h
  exact ⟨by have := (sys_iff.1 hs).2.1; omega, sys_short hs, by omega, fun r hr => ⟨Nat.le_trans (hf r hr).1.2.2 (by decide), Nat.le_trans (hf r hr).2.2.2 (by decide)⟩⟩
/-- The number in a cell. -/
def cellI : Option Value → Nat
  | some (.int _ z) => z.toNat
  | _ => 0
/-- The cells of the result ahead of the return. -/
def ResF (w wr : World) : Prop :=
  (wr.cell? ⟨w.heap.size, 0, none⟩ = some (.int .i64 0) ∧ wr.cell? ⟨w.heap.size, 1, none⟩ = some (.slice none 0 0) ∧ wr.cell? ⟨w.heap.size, 2, none⟩ = some (.slice none 0 0) ∧ wr.cell? ⟨w.heap.size, 3, none⟩ = some (.int .i64 0)) ∧
  (wr.frozen? ⟨w.heap.size, 0, none⟩ = false ∧ wr.frozen? ⟨w.heap.size, 1, none⟩ = false ∧ wr.frozen? ⟨w.heap.size, 2, none⟩ = false ∧ wr.frozen? ⟨w.heap.size, 3, none⟩ = false) ∧ w.heap.size + 1 ≤ wr.heap.size ∧ Below w.heap.size w wr
section
variable {w wr w' : World} {k t : Int} {A B : Option Addr} {n c m d g : Nat} {e ew : TypeId} {us vs : List Value} {cur : Array Value}
theorem ResF.keep (h : ResF w wr) (hb : Below (w.heap.size + 1) wr w') (hz : wr.heap.size ≤ w'.heap.size) : ResF w w' := by
  obtain ⟨⟨b0, b1, b2, b3⟩, ⟨f0, f1, f2, f3⟩, hs, hB⟩ := h
  have q1 : w.heap.size < w.heap.size + 1 := by omega
  have fz := fun (o : Nat) => hb.frozen (p := ⟨w.heap.size, o, none⟩) q1
  exact ⟨⟨cellBelow hb q1 b0, cellBelow hb q1 b1, cellBelow hb q1 b2, cellBelow hb q1 b3⟩, ⟨(fz 0).trans f0, (fz 1).trans f1, (fz 2).trans f2, (fz 3).trans f3⟩, by omega, hB.trans (hb.mono (by omega))⟩
theorem ResF.below (h : ResF w wr) (hb : Below wr.heap.size wr w') : ResF w w' := h.keep (hb.mono h.2.2.1) hb.size
theorem ResF.setAt (h : ResF w wr) (hg : w.heap.size + 1 ≤ g) (o : Nat) (u : Value) : ResF w (wr.setCell ⟨g, o, none⟩ u) := h.keep ((Below.refl _ _).setCell hg _) (by simp)
theorem ResF.fin (h : ResF w wr) {e : TypeId} {A' B' : Option Addr} {n' c' m' d' : Nat} {us vs : List Value} (o1 : OwnS wr (w.heap.size + 1) e 2 A' n' c' us) (o2 : OwnS wr (w.heap.size + 1) e 2 B' m' d' vs) (u0 u1 u2 u3 : Value) :
    OwnS ((((wr.setCell ⟨w.heap.size, 0, none⟩ u0).setCell ⟨w.heap.size, 1, none⟩ u1).setCell ⟨w.heap.size, 2, none⟩ u2).setCell ⟨w.heap.size, 3, none⟩ u3) w.heap.size e 2 A' n' c' us ∧
    OwnS ((((wr.setCell ⟨w.heap.size, 0, none⟩ u0).setCell ⟨w.heap.size, 1, none⟩ u1).setCell ⟨w.heap.size, 2, none⟩ u2).setCell ⟨w.heap.size, 3, none⟩ u3) w.heap.size e 2 B' m' d' vs ∧
    Below w.heap.size w ((((wr.setCell ⟨w.heap.size, 0, none⟩ u0).setCell ⟨w.heap.size, 1, none⟩ u1).setCell ⟨w.heap.size, 2, none⟩ u2).setCell ⟨w.heap.size, 3, none⟩ u3) :=
  ⟨((((o1.setLow (by omega)).setLow (by omega)).setLow (by omega)).setLow (by omega)).mono (by omega), ((((o2.setLow (by omega)).setLow (by omega)).setLow (by omega)).setLow (by omega)).mono (by omega),
    (((h.2.2.2.setCell (by simp) _).setCell (by simp) _).setCell (by simp) _).setCell (by simp) _⟩
theorem ResF.res (h : ResF w wr) (u0 u1 u2 u3 : Value) :
    (wr.setCell ⟨w.heap.size, 0, none⟩ u0).cell? ⟨w.heap.size, 0, none⟩ = some u0 ∧ ((wr.setCell ⟨w.heap.size, 0, none⟩ u0).setCell ⟨w.heap.size, 1, none⟩ u1).cell? ⟨w.heap.size, 1, none⟩ = some u1 ∧
    (((wr.setCell ⟨w.heap.size, 0, none⟩ u0).setCell ⟨w.heap.size, 1, none⟩ u1).setCell ⟨w.heap.size, 2, none⟩ u2).cell? ⟨w.heap.size, 2, none⟩ = some u2 ∧
    ((((wr.setCell ⟨w.heap.size, 0, none⟩ u0).setCell ⟨w.heap.size, 1, none⟩ u1).setCell ⟨w.heap.size, 2, none⟩ u2).setCell ⟨w.heap.size, 3, none⟩ u3).cell? ⟨w.heap.size, 3, none⟩ = some u3 := by
  obtain ⟨⟨b0, b1, b2, b3⟩, _⟩ := h
  have ne : ∀ {W : World} {o o' : Nat} (u : Value), o ≠ o' → (W.setCell ⟨w.heap.size, o, none⟩ u).cell? ⟨w.heap.size, o', none⟩ = W.cell? ⟨w.heap.size, o', none⟩ := fun u hne => cell_set_ne u (Or.inr hne)
  exact ⟨cell_set_eq _ b0, cell_set_eq u1 ((ne u0 (by decide)).trans b1), cell_set_eq u2 (((ne u1 (by decide)).trans (ne u0 (by decide))).trans b2), cell_set_eq u3 ((((ne u2 (by decide)).trans (ne u1 (by decide))).trans (ne u0 (by decide))).trans b3)⟩
/-- A work laid over another one. -/
theorem OutQ.over {lo n' c' m' d' : Nat} {k' t' : Int} {A' B' : Option Addr} {us' vs' : List Value} (q : OutQ e ew lo wr g k A n c us B m d vs t) (hne : e ≠ ew) (hA : OwnS wr lo e 2 A' n' c' us') (hB : OwnS wr lo e 2 B' m' d' vs') (ha : apartS A' c' B' d') :
    OutQ e ew lo ((((wr.setCell ⟨g, 0, none⟩ (.int .i64 k')).setCell ⟨g, 1, none⟩ (.slice A' n' c')).setCell ⟨g, 2, none⟩ (.slice B' m' d')).setCell ⟨g, 3, none⟩ (.int .i64 t')) g k' A' n' c' us' B' m' d' vs' t' := by
  have h0 := heap_setCell_same wr g 0 _ _ (.int .i64 k') q.1
  have h1 := heap_setCell_same _ g 1 _ _ (.slice A' n' c') h0
  have h2 := heap_setCell_same _ g 2 _ _ (.slice B' m' d') h1
  exact ⟨heap_setCell_same _ g 3 _ _ (.int .i64 t') h2, q.2.1, (((hA.setApart q.1 hne _ _).setApart h0 hne _ _).setApart h1 hne _ _).setApart h2 hne _ _, (((hB.setApart q.1 hne _ _).setApart h0 hne _ _).setApart h1 hne _ _).setApart h2 hne _ _, ha⟩
theorem OutQ.tab4 {lo : Nat} (q : OutQ e ew lo wr g k A n c us B m d vs t) (u0 u1 u2 u3 : Value) :
    (wr.setCell ⟨g, 0, none⟩ u0).cell? ⟨g, 1, none⟩ = some (.slice A n c) ∧ ((wr.setCell ⟨g, 0, none⟩ u0).setCell ⟨g, 1, none⟩ u1).cell? ⟨g, 2, none⟩ = some (.slice B m d) ∧ (((wr.setCell ⟨g, 0, none⟩ u0).setCell ⟨g, 1, none⟩ u1).setCell ⟨g, 2, none⟩ u2).cell? ⟨g, 3, none⟩ = some (.int .i64 t) := by
  obtain ⟨s0, s1, s2, s3⟩ := q.tab
  have ne : ∀ {W : World} {o o' : Nat} (u : Value), o ≠ o' → (W.setCell ⟨g, o, none⟩ u).cell? ⟨g, o', none⟩ = W.cell? ⟨g, o', none⟩ := fun u hne => cell_set_ne u (Or.inr hne)
  exact ⟨(ne _ (by decide)).trans s1, ((ne _ (by decide)).trans (ne _ (by decide))).trans s2, (((ne _ (by decide)).trans (ne _ (by decide))).trans (ne _ (by decide))).trans s3⟩
end
set_option maxRecDepth 100000 in
set_option maxHeartbeats 4000000 in
theorem spec_StartWork_s (k : Int) (ad : Addr) (c : Nat) (es : List M.Rule) (w : World) (hA : Rd w 2 (some ad) es.length (ruls es)) (hl : es.length ≤ 1048576) (hs : ∀ r ∈ es, r.left.length ≤ 1048576 ∧ r.right.length ≤ 1048576) :
    Calls Try.prog 154 #[.int .i64 k, .slice (some ad) es.length c] w (RetStartS 84 (M.startK k es) (M.startQ k es) (M.startOk k es) w) := by
  have h1 := Lib.hid (fun W => l01In_c k 1 4 W)
  have HA := Lib.hid hA
  have HS := Lib.hid hs
  clear hA hs
  obtain ⟨x, hx⟩ : ∃ x, x = M.within k 1 4 := ⟨_, rfl⟩
  rw [← hx] at h1
  cases x
  case false =>
    have h0 := startOk_no1 (es := es) hx.symm
    rw [(start_no h0).1, (start_no h0).2, h0]
    clear hx h0
    go_enter Try.func154, Try.ntmps154
    go_wp2_with fail
    refine (h1.out _).mono ?_
    rintro e w1 ⟨rfl, rfl⟩
    go_wp2_with fail
    refine bodyPost_ret (v := .tuple #[.agg #[.int .i64 0, .slice none 0 0, .slice none 0 0, .int .i64 0], .bool false]) (by simp [results, Try.results154, go_sem]) rfl ⟨none, 0, rfl, ownS_none, (by repeat (first | exact Below.refl _ _ | refine Below.setCell ?_ (by simp <;> omega) _ | refine Below.alloc ?_ (by simp <;> omega) _ | refine below_drewN ?_ _ | refine Below.drew ?_))⟩
  case true =>
  by_cases h12 : es.length ≤ 12
  case neg =>
    have h0 := startOk_no2 (k := k) h12
    rw [(start_no h0).1, (start_no h0).2, h0]
    have h12' : (12 : Int) < (es.length : Int) := by omega
    clear hx h0
    go_enter Try.func154, Try.ntmps154
    go_wp2_with fail
    refine (h1.out _).mono ?_
    rintro e w1 ⟨rfl, rfl⟩
    go_wp2_with fail
    refine bodyPost_ret (v := .tuple #[.agg #[.int .i64 0, .slice none 0 0, .slice none 0 0, .int .i64 0], .bool false]) (by simp [results, Try.results154, go_sem]) rfl ⟨none, 0, rfl, ownS_none, (by repeat (first | exact Below.refl _ _ | refine Below.setCell ?_ (by simp <;> omega) _ | refine Below.alloc ?_ (by simp <;> omega) _ | refine below_drewN ?_ _ | refine Below.drew ?_))⟩
  case pos =>
  have h12' : ¬ ((12 : Int) < (es.length : Int)) := by omega
  have h0 := startOk_yes (es := es) hx.symm h12
  obtain ⟨q, hq⟩ : ∃ q, q = es.any (fun r => !M.SidesOk k r) := ⟨_, rfl⟩
  rw [← hq] at h0
  have HQ := Lib.hid hq
  have HNO := Lib.hid (fun (h : q = true) => show M.startK k es = 0 ∧ M.startQ k es = [] ∧ M.startOk k es = false from ⟨(start_no (by rw [h0, h]; rfl)).1, (start_no (by rw [h0, h]; rfl)).2, by rw [h0, h]; rfl⟩)
  have HYES := Lib.hid (fun (h : q = false) => show M.startK k es = k ∧ M.startQ k es = es ∧ M.startOk k es = true from ⟨(start_yes (by rw [h0, h]; rfl)).1, (start_yes (by rw [h0, h]; rfl)).2, by rw [h0, h]; rfl⟩)
  obtain ⟨sk, hsk⟩ : ∃ sk, sk = M.startK k es := ⟨_, rfl⟩
  obtain ⟨sq, hsq⟩ : ∃ sq, sq = M.startQ k es := ⟨_, rfl⟩
  obtain ⟨so, hso⟩ : ∃ so, so = M.startOk k es := ⟨_, rfl⟩
  rw [← hsk, ← hsq, ← hso] at HNO HYES
  rw [← hsk, ← hsq, ← hso]
  obtain ⟨n, hn⟩ : ∃ n, n = es.length := ⟨_, rfl⟩
  have HN := Lib.hid hn
  have hnb : n ≤ 12 := by omega
  rw [← hn] at HA h12' ⊢
  clear hx hq h0 hsk hsq hso hn h12 hl
  go_enter Try.func154, Try.ntmps154
  go_wp2_with fail
  refine (h1.out _).mono ?_
  rintro e w1 ⟨rfl, rfl⟩
  go_wp2_with fail
  obtain ⟨w1, hw1⟩ : ∃ w1 : World, w1 = w.alloc (.cells #[.int .i64 0, .slice none 0 0, .slice none 0 0, .int .i64 0] 60) := ⟨_, rfl⟩
  have D0 := Lib.hid (show w1.cell? ⟨w.heap.size, 0, none⟩ = some (.int .i64 0) by rw [hw1]; simp [go_sem])
  have F0 := Lib.hid (show w1.frozen? ⟨w.heap.size, 0, none⟩ = false by rw [hw1]; simp [go_sem])
  have D1 := Lib.hid (show w1.cell? ⟨w.heap.size, 1, none⟩ = some (.slice none 0 0) by rw [hw1]; simp [go_sem])
  have F1 := Lib.hid (show w1.frozen? ⟨w.heap.size, 1, none⟩ = false by rw [hw1]; simp [go_sem])
  have D2 := Lib.hid (show w1.cell? ⟨w.heap.size, 2, none⟩ = some (.slice none 0 0) by rw [hw1]; simp [go_sem])
  have F2 := Lib.hid (show w1.frozen? ⟨w.heap.size, 2, none⟩ = false by rw [hw1]; simp [go_sem])
  have D3 := Lib.hid (show w1.cell? ⟨w.heap.size, 3, none⟩ = some (.int .i64 0) by rw [hw1]; simp [go_sem])
  have F3 := Lib.hid (show w1.frozen? ⟨w.heap.size, 3, none⟩ = false by rw [hw1]; simp [go_sem])
  have HB0 := Lib.hid (show Below w.heap.size w w1 by rw [hw1]; exact (Below.refl _ _).alloc (Nat.le_refl _) _)
  have HS1 := Lib.hid (show w.heap.size + 1 ≤ w1.heap.size by rw [hw1]; simp)
  have HA1 := Lib.hid (HA.out.below HB0.out)
  rw [← hw1]
  clear hw1
  go_loopw [19] (fun z wr => ∃ j : Nat, j ≤ n ∧ z = .int .i64 j ∧ (es.drop j).any (fun r => !M.SidesOk k r) = q ∧ Below w1.heap.size w1 wr) (fun z _ => n - (intOf z).toNat)
  case atStart => exact ⟨0, by omega, rfl, by rw [List.drop_zero, HQ.out], Below.refl _ _⟩
  case round =>
    obtain ⟨j, hj, rfl, hf, hb⟩ := hrel
    have HB := Lib.hid hb
    have hws := Nat.le_trans HS1.out hb.size
    by_cases hlt : j < n
    case neg =>
      have e : q = false := by rw [List.drop_eq_nil_of_le (by have := HN.out; omega)] at hf; exact hf.symm
      obtain ⟨e1, e2, e3⟩ := HYES.out e
      have d0 := cellKeep hb D0.out
      have f0 := frozenKeep hb D0.out F0.out
      have d1 := cellKeep hb D1.out
      have f1 := frozenKeep hb D1.out F1.out
      have d2 := cellKeep hb D2.out
      have f2 := frozenKeep hb D2.out F2.out
      have d3 := cellKeep hb D3.out
      have f3 := frozenKeep hb D3.out F3.out
      have HD := Lib.hid (And.intro d0 (And.intro d1 (And.intro d2 d3)))
      have HFR := Lib.hid (And.intro f0 (And.intro f1 (And.intro f2 f3)))
      have HA2 := Lib.hid (fun o => (HA1.out.below HB.out).below ((Below.refl wr.heap.size wr).alloc (Nat.le_refl _) o))
      have HE := Lib.hid (And.intro e1 (And.intro e2 e3))
      have hle := HN.out
      clear hf hb d0 d1 d2 d3 f0 f1 f2 f3 e e1 e2 e3
      go_wp2_with (at_builtin; refine push_many rfl _ _ rfl slRule rfl (World.ownsRow_lit wr #[] 0 (Nat.le_refl _) (by simp [maxLen]) (by simp)) rfl (HA2.out _) (ruls_one' es) ((Below.refl _ _).alloc (Nat.le_refl _) _) rfl (by omega) ?_; intro A2 c2 w2 hown2 hb2; obtain ⟨d0, d1, d2, d3⟩ := HD.out; obtain ⟨f0, f1, f2, f3⟩ := HFR.out; replace f0 := frozenKeep hb2 d0 f0; replace f1 := frozenKeep hb2 d1 f1; replace f2 := frozenKeep hb2 d2 f2; replace f3 := frozenKeep hb2 d3 f3; replace d0 := cellKeep hb2 d0; replace d1 := cellKeep hb2 d1; replace d2 := cellKeep hb2 d2; replace d3 := cellKeep hb2 d3; have HO2 := Lib.hid hown2; have HB2 := Lib.hid hb2; clear hown2 hb2)
      obtain ⟨e1, e2, e3⟩ := HE.out
      have HOO := Lib.hid ((OwnS.of_row HO2.out).mono (base' := w.heap.size + 1) (by omega))
      rw [Nat.zero_add] at HOO
      refine bodyPost_ret (v := .tuple #[.agg #[.int .i64 k, .slice none 0 0, .slice A2 n c2, .int .i64 0], .bool true]) ?_ rfl ⟨A2, c2, by rw [e1, e2, e3, ← hle], ?_, ?_⟩
      · simp [results, Try.results154, go_sem, cell_set_ne, set_some, isSome_keep, some_of d0, some_of d1, some_of d2, some_of d3]
        exact hle.symm
      · rw [e2, ← hle]
        exact (((((HOO.out).setLow (by omega)).setLow (by omega)).setLow (by omega)).setLow (by omega)).mono (by omega)
      · exact ((((HB0.out.trans ((HB.out.trans (HB2.out.mono HB.out.size)).mono HB0.out.size)).setCell (by simp <;> omega) _).setCell (by simp <;> omega) _).setCell (by simp <;> omega) _).setCell (by simp <;> omega) _
    case pos =>
      obtain ⟨b, o, hadd, hz, hc1, hc2⟩ := (HA1.out.below hb).ruleAt (k := j) hlt
      injection hadd with hadd
      subst hadd
      have hd : (es.drop j).any (fun r => !M.SidesOk k r) = (!M.SidesOk k es[j] || (es.drop (j + 1)).any (fun r => !M.SidesOk k r)) := by rw [List.drop_eq_getElem_cons hz, List.any_cons]
      have hsz := HS.out es[j] (List.getElem_mem hz)
      have HF2 := Lib.hid (hd.symm.trans hf)
      generalize es[j] = r at *
      obtain ⟨rl, rr⟩ := r
      simp only at hc1 hc2 hsz
      have HC := Lib.hid (fun W => spec_SidesOk_c k rl rr W hsz.1 hsz.2)
      have d0 := cellKeep hb D0.out
      have f0 := frozenKeep hb D0.out F0.out
      have d1 := cellKeep hb D1.out
      have f1 := frozenKeep hb D1.out F1.out
      have d2 := cellKeep hb D2.out
      have f2 := frozenKeep hb D2.out F2.out
      have d3 := cellKeep hb D3.out
      have f3 := frozenKeep hb D3.out F3.out
      have HD := Lib.hid (And.intro d0 (And.intro d1 (And.intro d2 d3)))
      have HFR := Lib.hid (And.intro f0 (And.intro f1 (And.intro f2 f3)))
      generalize M.SidesOk k ⟨rl, rr⟩ = x at *
      clear hd hf hb hsz d0 d1 d2 d3 f0 f1 f2 f3
      cases x
      case true =>
        have HE := Lib.hid (show (es.drop (j + 1)).any (fun r => !M.SidesOk k r) = q by have h := HF2.out; simpa using h)
        go_wp2_with fail
        refine (HC.out _).mono ?_
        rintro e w2 ⟨rfl, hb2⟩
        go_wp2_with fail
        go_roundw
        case rel => exact ⟨j + 1, by omega, by go_num, HE.out, HB.out.trans ((below_alloc1 hb2).mono HB.out.size)⟩
        case measure => simp [intOf] <;> omega
      case false =>
        obtain ⟨e1, e2, e3⟩ := HNO.out (show q = true by rw [← HF2.out]; rfl)
        have HE := Lib.hid (And.intro e1 (And.intro e2 e3))
        clear e1 e2 e3
        go_wp2_with fail
        refine (HC.out _).mono ?_
        rintro e w2 ⟨rfl, hb2⟩
        have hb3 := below_alloc1 hb2
        obtain ⟨d0, d1, d2, d3⟩ := HD.out
        obtain ⟨f0, f1, f2, f3⟩ := HFR.out
        replace f0 := frozenKeep hb3 d0 f0
        replace f1 := frozenKeep hb3 d1 f1
        replace f2 := frozenKeep hb3 d2 f2
        replace f3 := frozenKeep hb3 d3 f3
        replace d0 := cellKeep hb3 d0
        replace d1 := cellKeep hb3 d1
        replace d2 := cellKeep hb3 d2
        replace d3 := cellKeep hb3 d3
        have HB3 := Lib.hid hb3
        clear hb2 hb3
        go_wp2_with fail
        obtain ⟨e1, e2, e3⟩ := HE.out
        refine bodyPost_ret (v := .tuple #[.agg #[.int .i64 0, .slice none 0 0, .slice none 0 0, .int .i64 0], .bool false]) ?_ rfl ⟨none, 0, by rw [e1, e2, e3]; rfl, by rw [e2]; exact ownS_none, ?_⟩
        · simp [results, Try.results154, go_sem, cell_set_ne, set_some, isSome_keep, some_of d0, some_of d1, some_of d2, some_of d3]
        · exact ((((HB0.out.trans ((HB.out.trans (HB3.out.mono HB.out.size)).mono HB0.out.size)).setCell (by simp <;> omega) _).setCell (by simp <;> omega) _).setCell (by simp <;> omega) _).setCell (by simp <;> omega) _
set_option maxRecDepth 100000 in
set_option maxHeartbeats 4000000 in
theorem impl_StartWork_s (k : Int) (ad : Addr) (c : Nat) (es : List M.Rule) (w : World) (hA : Rd w 2 (some ad) es.length (ruls es)) (hl : es.length ≤ 1048576) (hs : ∀ r ∈ es, r.left.length ≤ 1048576 ∧ r.right.length ≤ 1048576) :
    Calls Try.prog 57 #[.int .i64 k, .slice (some ad) es.length c] w (RetStartS 84 (M.startK k es) (M.startQ k es) (M.startOk k es) w) := by
  have h1 := Lib.hid (fun W => within_c k 1 4 W)
  have h2 := Lib.hid (fun b0 W h hc => ContainsFuncStartWork1_c b0 (fun r => !M.SidesOk k r) (some ad) c es W h hl hc)
  have h3 := Lib.hid (fun W h => cloneRule_c ad c es W h hl)
  have HA := Lib.hid hA
  have HS := Lib.hid hs
  have hmf : ∀ (fn : Fn) (first cap : Array Value) (w : World), (Instr.makeFunc fn first cap).run Try.prog w = .ok (.func fn first cap) w := fun _ _ _ _ => rfl
  clear hA hs
  obtain ⟨x, hx⟩ : ∃ x, x = M.within k 1 4 := ⟨_, rfl⟩
  rw [← hx] at h1
  cases x
  case false =>
    have h0 := startOk_no1 (es := es) hx.symm
    rw [(start_no h0).1, (start_no h0).2, h0]
    clear hx h0
    go_enter Try.func57, Try.ntmps57
    go_wp2_with fail
    refine (h1.out _).mono ?_
    rintro e w1 ⟨rfl, rfl⟩
    go_wp2_with fail
    refine bodyPost_ret (v := .tuple #[.agg #[.int .i64 0, .slice none 0 0, .slice none 0 0, .int .i64 0], .bool false]) (by simp [results, Try.results57, go_sem]) rfl ⟨none, 0, rfl, ownS_none, (by repeat (first | exact Below.refl _ _ | refine Below.setCell ?_ (by simp <;> omega) _ | refine Below.alloc ?_ (by simp <;> omega) _ | refine below_drewN ?_ _ | refine Below.drew ?_))⟩
  case true =>
  by_cases h12 : es.length ≤ 12
  case neg =>
    have h0 := startOk_no2 (k := k) h12
    rw [(start_no h0).1, (start_no h0).2, h0]
    have h12' : (12 : Int) < (es.length : Int) := by omega
    clear hx h0
    go_enter Try.func57, Try.ntmps57
    go_wp2_with fail
    refine (h1.out _).mono ?_
    rintro e w1 ⟨rfl, rfl⟩
    go_wp2_with fail
    refine bodyPost_ret (v := .tuple #[.agg #[.int .i64 0, .slice none 0 0, .slice none 0 0, .int .i64 0], .bool false]) (by simp [results, Try.results57, go_sem]) rfl ⟨none, 0, rfl, ownS_none, (by repeat (first | exact Below.refl _ _ | refine Below.setCell ?_ (by simp <;> omega) _ | refine Below.alloc ?_ (by simp <;> omega) _ | refine below_drewN ?_ _ | refine Below.drew ?_))⟩
  case pos =>
  have h12' : ¬ ((12 : Int) < (es.length : Int)) := by omega
  have h0 := startOk_yes (es := es) hx.symm h12
  obtain ⟨q, hq⟩ : ∃ q, q = es.any (fun r => !M.SidesOk k r) := ⟨_, rfl⟩
  rw [← hq] at h0 h2
  clear hx hq h12
  cases q
  case true =>
    have h0 : M.startOk k es = false := h0
    rw [(start_no h0).1, (start_no h0).2, h0]
    clear h0
    go_enter Try.func57, Try.ntmps57
    go_wp2_with fail
    refine (h1.out _).mono ?_
    rintro e w1 ⟨rfl, rfl⟩
    go_wp2_with fail
    refine (h2.out w.heap.size _ (HA.out.below (by repeat (first | exact Below.refl _ _ | refine Below.setCell ?_ (by simp <;> omega) _ | refine Below.alloc ?_ (by simp <;> omega) _ | refine below_drewN ?_ _ | refine Below.drew ?_))) (fun W hW r hr => StartWork1_c k w.heap.size r W (cellKeep hW (by simp [go_sem])) (HS.out r hr))).mono ?_
    rintro e w1 ⟨rfl, hb⟩
    have d0 : w1.cell? ⟨w.heap.size + 1, 0, none⟩ = some (.int .i64 0) := cellKeep hb (by simp [go_sem])
    have f0 : w1.frozen? ⟨w.heap.size + 1, 0, none⟩ = false := ((bcell hb).2 _ _ (by simp)).trans (by simp [go_sem])
    have d1 : w1.cell? ⟨w.heap.size + 1, 1, none⟩ = some (.slice none 0 0) := cellKeep hb (by simp [go_sem])
    have f1 : w1.frozen? ⟨w.heap.size + 1, 1, none⟩ = false := ((bcell hb).2 _ _ (by simp)).trans (by simp [go_sem])
    have d2 : w1.cell? ⟨w.heap.size + 1, 2, none⟩ = some (.slice none 0 0) := cellKeep hb (by simp [go_sem])
    have f2 : w1.frozen? ⟨w.heap.size + 1, 2, none⟩ = false := ((bcell hb).2 _ _ (by simp)).trans (by simp [go_sem])
    have d3 : w1.cell? ⟨w.heap.size + 1, 3, none⟩ = some (.int .i64 0) := cellKeep hb (by simp [go_sem])
    have f3 : w1.frozen? ⟨w.heap.size + 1, 3, none⟩ = false := ((bcell hb).2 _ _ (by simp)).trans (by simp [go_sem])
    have HB := Lib.hid (below_alloc2 hb)
    clear hb
    go_wp2_with fail
    refine bodyPost_ret (v := .tuple #[.agg #[.int .i64 0, .slice none 0 0, .slice none 0 0, .int .i64 0], .bool false]) ?_ rfl ⟨none, 0, rfl, ownS_none, ?_⟩
    · simp [results, Try.results57, go_sem, cell_set_ne, set_some, isSome_keep, some_of d0, some_of d1, some_of d2, some_of d3]
    · exact (((HB.out.setCell (by simp <;> omega) _).setCell (by simp <;> omega) _).setCell (by simp <;> omega) _).setCell (by simp <;> omega) _
  case false =>
    have h0 : M.startOk k es = true := h0
    rw [(start_yes h0).1, (start_yes h0).2, h0]
    clear h0
    go_enter Try.func57, Try.ntmps57
    go_wp2_with fail
    refine (h1.out _).mono ?_
    rintro e w1 ⟨rfl, rfl⟩
    go_wp2_with fail
    refine (h2.out w.heap.size _ (HA.out.below (by repeat (first | exact Below.refl _ _ | refine Below.setCell ?_ (by simp <;> omega) _ | refine Below.alloc ?_ (by simp <;> omega) _ | refine below_drewN ?_ _ | refine Below.drew ?_))) (fun W hW r hr => StartWork1_c k w.heap.size r W (cellKeep hW (by simp [go_sem])) (HS.out r hr))).mono ?_
    rintro e w1 ⟨rfl, hb⟩
    have d0 : w1.cell? ⟨w.heap.size + 1, 0, none⟩ = some (.int .i64 0) := cellKeep hb (by simp [go_sem])
    have f0 : w1.frozen? ⟨w.heap.size + 1, 0, none⟩ = false := ((bcell hb).2 _ _ (by simp)).trans (by simp [go_sem])
    have d1 : w1.cell? ⟨w.heap.size + 1, 1, none⟩ = some (.slice none 0 0) := cellKeep hb (by simp [go_sem])
    have f1 : w1.frozen? ⟨w.heap.size + 1, 1, none⟩ = false := ((bcell hb).2 _ _ (by simp)).trans (by simp [go_sem])
    have d2 : w1.cell? ⟨w.heap.size + 1, 2, none⟩ = some (.slice none 0 0) := cellKeep hb (by simp [go_sem])
    have f2 : w1.frozen? ⟨w.heap.size + 1, 2, none⟩ = false := ((bcell hb).2 _ _ (by simp)).trans (by simp [go_sem])
    have d3 : w1.cell? ⟨w.heap.size + 1, 3, none⟩ = some (.int .i64 0) := cellKeep hb (by simp [go_sem])
    have f3 : w1.frozen? ⟨w.heap.size + 1, 3, none⟩ = false := ((bcell hb).2 _ _ (by simp)).trans (by simp [go_sem])
    have k0 : w1.cell? ⟨w.heap.size, 0, none⟩ = some (.int .i64 k) := cellKeep hb (by simp [go_sem])
    have HB := Lib.hid (below_alloc2 hb)
    have HS1 := Lib.hid (show w.heap.size + 2 ≤ w1.heap.size by have h := hb.size; (try simp at h); omega)
    have HD := Lib.hid (And.intro d0 (And.intro d1 (And.intro d2 (And.intro d3 k0))))
    have HFR := Lib.hid (And.intro f0 (And.intro f1 (And.intro f2 f3)))
    have HA1 := Lib.hid (HA.out.below HB.out)
    clear hb d0 d1 d2 d3 f0 f1 f2 f3
    go_wp2_with fail
    go_region_with (go_at_call 101; refine (h3.out _ (HA1.out.below (by first | exact (Below.refl _ _).drew | exact Below.refl _ _))).mono ?_; rintro e wc ⟨Ac, cc, rfl, hown, hbc⟩; have d0 := cellKeep hbc HD.out.1; have d1 := cellKeep hbc HD.out.2.1; have d2 := cellKeep hbc HD.out.2.2.1; have d3 := cellKeep hbc HD.out.2.2.2.1; have kk := cellKeep hbc HD.out.2.2.2.2; have f0 := frozenKeep hbc HD.out.1 HFR.out.1; have f1 := frozenKeep hbc HD.out.2.1 HFR.out.2.1; have f2 := frozenKeep hbc HD.out.2.2.1 HFR.out.2.2.1; have f3 := frozenKeep hbc HD.out.2.2.2.1 HFR.out.2.2.2)
    all_goals
      have HO := Lib.hid (OwnS.of_row hown)
      have HBC := Lib.hid hbc
      clear hown hbc
      try go_wp2_with fail
      refine bodyPost_ret (v := .tuple #[.agg #[.int .i64 k, .slice none 0 0, .slice Ac es.length cc, .int .i64 0], .bool true]) ?_ rfl ⟨Ac, cc, rfl, ?_, ?_⟩
      · simp [results, Try.results57, go_sem, cell_set_ne, set_some, isSome_keep, some_of d0, some_of d1, some_of d2, some_of d3]
      · exact (((((HO.out.mono (base' := w.heap.size + 2) (by have h := HS1.out; first | exact h | (simp; omega))).setLow (by omega)).setLow (by omega)).setLow (by omega)).setLow (by omega)).mono (by omega)
      · exact ((((HB.out.trans ((Below.drew (Below.refl w1.heap.size w1)).trans HBC.out |>.mono HB.out.size)).setCell (by simp <;> omega) _).setCell (by simp <;> omega) _).setCell (by simp <;> omega) _).setCell (by simp <;> omega) _
set_option maxRecDepth 100000 in
set_option maxHeartbeats 8000000 in
theorem completed_c (mx : Int) (k : Int) (ad : Addr) (c : Nat) (es : List M.Rule) (w : World) (hA : Rd w 2 (some ad) es.length (ruls es)) (hl : es.length ≤ 1048576) (hs : ∀ r ∈ es, r.left.length ≤ 1048576 ∧ r.right.length ≤ 1048576) (hmx : w.cell? ⟨0, 0, none⟩ = some (.int .i64 mx)) :
    Calls Try.prog 109 #[.int .i64 k, .slice (some ad) es.length c] w (RetTurn 84 (M.startK k es) (M.run k es) w) := by
  have HA := Lib.hid (fun W (hb : Below w.heap.size w W) => hA.below hb)
  have HST := Lib.hid (fun W h => impl_StartWork_s k ad c es W h hl hs)
  have HMX := Lib.hid (fun W (hb : Below w.heap.size w W) => cellKeep hb hmx)
  clear hmx
  have HBD := Lib.hid (show Bd [] es from ⟨by simp, fun r hr => by simp at hr, hl, hs⟩)
  have H0 := Lib.hid (show ResF w (w.alloc (.cells #[.int .i64 0, .slice none 0 0, .slice none 0 0, .int .i64 0] 60)) from ⟨⟨by simp [go_sem], by simp [go_sem], by simp [go_sem], by simp [go_sem]⟩, ⟨by simp [go_sem], by simp [go_sem], by simp [go_sem], by simp [go_sem]⟩, by simp, below_al (Below.refl _ _) _⟩)
  obtain ⟨n0, hn0⟩ : ∃ n0, n0 = es.length := ⟨_, rfl⟩
  have HN0 := Lib.hid hn0
  rw [← hn0] at HA HST ⊢
  clear hA hl hs hn0
  obtain ⟨X, hX⟩ : ∃ X, X = M.run k es := ⟨_, rfl⟩
  rw [← hX]
  have HX := Lib.hid hX
  clear hX
  cases hso : M.startOk k es with
  | false =>
    rw [(start_no hso).1] at HST ⊢
    rw [(start_no hso).2, hso] at HST
    have hX := HX.out
    unfold M.run at hX
    rw [if_neg (by rw [hso]; simp)] at hX
    subst hX
    unfold RetStartS at HST
    simp only [List.length_nil] at HST
    clear HX HBD hso HN0
    go_enter Try.func109, Try.ntmps109
    go_wp2_with fail
    refine (HST.out _ (HA.out _ H0.out.2.2.2)).mono ?_
    rintro e w1 ⟨A1, c1, rfl, o1, hb⟩
    have Q1 := Lib.hid ((H0.out.below hb).below (ref_al w1 (.cells #[.int .i64 0, .slice none 0 0, .slice A1 0 c1, .int .i64 0] 60)))
    clear hb o1
    obtain ⟨⟨b0, b1, b2, b3⟩, ⟨f0, f1, f2, f3⟩, _, _⟩ := Q1.out
    go_wp2_with fail
    obtain ⟨r1, r2, r3⟩ := Q1.out.fin (e := 84) ownS_none ownS_none (.int .i64 0) (.slice none 0 0) (.slice none 0 0) (.int .i64 0)
    obtain ⟨x0, x1, x2, x3⟩ := Q1.out.res (.int .i64 0) (.slice none 0 0) (.slice none 0 0) (.int .i64 0)
    refine bodyPost_ret (v := .tuple #[.agg #[.int .i64 0, .slice none 0 0, .slice none 0 0, .int .i64 0], .int .i64 4]) (by simp [results, Try.results109, go_sem, x0, x1, x2, x3]) rfl ⟨none, 0, none, 0, rfl, r1, r2, fun y h1 h2 => by simp [blkS] at h1, r3⟩
  | true =>
  rw [(start_yes hso).1] at HST ⊢
  rw [(start_yes hso).2, hso] at HST
  have HX2 := Lib.hid (show M.runTo k 201 [] es 0 = X from by rw [HX.out]; unfold M.run; rw [if_pos hso])
  unfold RetStartS at HST
  clear HX hso
  have HTW := Lib.hid (fun W rs qs t A c B d hA hB (hd : qs.length ≤ d) (hb : Bd rs qs) (hW : Below w.heap.size w W) => impl_TurnWork_c mx k A c rs B d qs t W hA hB hd hb.1 hb.2.1 hb.2.2.1 hb.2.2.2 (HMX.out W hW))
  go_enter Try.func109, Try.ntmps109
  go_wp2_with fail
  refine (HST.out _ (HA.out _ H0.out.2.2.2)).mono ?_
  rintro e w1 ⟨A1, c1, rfl, o1, hb⟩
  rw [← HN0.out] at o1
  have Q1 := Lib.hid ((H0.out.below hb).below (ref_al w1 (.cells #[.int .i64 k, .slice none 0 0, .slice A1 es.length c1, .int .i64 0] 60)))
  have HO := Lib.hid (show OutQ 84 60 (w.heap.size + 1) (w1.alloc (.cells #[.int .i64 k, .slice none 0 0, .slice A1 es.length c1, .int .i64 0] 60)) w1.heap.size k none 0 0 (ruls []) A1 es.length c1 (ruls es) 0 from
    OutQ.made (ownS_none) ((by rw [HN0.out] at o1; exact o1 : OwnS w1 _ 84 2 A1 es.length c1 (ruls es)).mono (by have := H0.out.2.2.1; simp)) (fun y h1 h2 => by simp [blkS] at h1) (by have := (H0.out.below hb).2.2.1; exact this))
  clear hb o1 HST HA
  go_wp2_with fail
  generalize w1.alloc (.cells #[.int .i64 k, .slice none 0 0, .slice A1 es.length c1, .int .i64 0] 60) = w2 at *
  generalize w1.heap.size = g6 at *
  go_loopw [9] (fun z wr => ∃ (rs qs : List M.Rule) (t : Int) (A : Option Addr) (c : Nat) (B : Option Addr) (d : Nat), ResF w wr ∧ OutQ 84 60 (w.heap.size + 1) wr g6 k A rs.length c (ruls rs) B qs.length d (ruls qs) t ∧ Bd rs qs ∧ (0 ≤ t ∧ t ≤ 200) ∧ M.runTo k (201 - t.toNat) rs qs t = X) (fun z wr => 201 - cellI (wr.cell? ⟨g6, 3, none⟩))
  case atStart => exact ⟨[], es, 0, none, 0, A1, c1, Q1.out, HO.out, HBD.out, ⟨by omega, by omega⟩, HX2.out⟩
  case round =>
    clear Q1 HO HBD HX2
    obtain ⟨rs, qs, t, A, c2, B, d, hr, hq, hbd, ht, hx⟩ := hrel
    have HR := Lib.hid hr
    have HQ := Lib.hid hq
    have HB := Lib.hid hbd
    have HXR := Lib.hid hx
    clear hr hq hbd hx
    have hf : 201 - t.toNat = (200 - t.toNat) + 1 := by omega
    rw [hf] at HXR
    clear hf
    obtain ⟨s0, s1, s2, s3⟩ := HQ.out.tab
    by_cases hqe : qs = []
    case pos =>
      subst hqe
      have hx := HXR.out
      rw [runTo_end] at hx
      subst hx
      clear HXR HTW
      obtain ⟨⟨b0, b1, b2, b3⟩, ⟨f0, f1, f2, f3⟩, _, _⟩ := HR.out
      have ha := HQ.out.2.2.2.2
      simp only [List.length_nil] at s2
      go_wp2_with fail
      have HR2 := HR
      have HQ2 := HQ
      obtain ⟨r1, r2, r3⟩ := HR2.out.fin HQ2.out.2.2.1 HQ2.out.2.2.2.1 (.int .i64 k) (.slice A rs.length c2) (.slice B 0 d) (.int .i64 (t))
      obtain ⟨x0, x1, x2, x3⟩ := HR2.out.res (.int .i64 k) (.slice A rs.length c2) (.slice B 0 d) (.int .i64 (t))
      refine bodyPost_ret (v := .tuple #[.agg #[.int .i64 k, .slice A rs.length c2, .slice B 0 d, .int .i64 (t)], .int .i64 0]) (by simp [results, Try.results109, go_sem, x0, x1, x2, x3]) rfl ⟨A, c2, B, d, rfl, r1, r2, ha, r3⟩
    case neg =>
      have hm0 : (0 : Int) < (qs.length : Int) := by have := List.length_pos_iff.2 hqe; omega
      go_wp2_with fail
      refine (HTW.out _ rs qs t A c2 B d HQ.out.2.2.1.own.rd HQ.out.2.2.2.1.own.rd HQ.out.2.2.2.1.2.1 HB.out HR.out.2.2.2).mono ?_
      rintro e w3 ⟨A3, c3, B3, d3, rfl, o1, o2, hap, hb⟩
      have hok := fun hc => turn_ok (k := k) (t := t) (rs := rs) hqe hc
      have hstop := fun hc => runTo_stop (k := k) (f := 200 - t.toNat) (rs := rs) (t := t) hqe hc
      have hgo := fun hc => runTo_go (k := k) (f := 200 - t.toNat) (rs := rs) (t := t) hqe hc
      generalize M.turn k rs qs t = y at *
      obtain ⟨rs', qs', t', code⟩ := y
      simp only at o1 o2 hok hstop hgo ⊢
      have P1 := Lib.hid (o1.mono (base' := w.heap.size + 1) HR.out.2.2.1)
      have P2 := Lib.hid (o2.mono (base' := w.heap.size + 1) HR.out.2.2.1)
      have HAP := Lib.hid hap
      have HR3 := Lib.hid ((HR.out.below hb).below (ref_al w3 (.cells #[.int .i64 k, .slice A3 rs'.length c3, .slice B3 qs'.length d3, .int .i64 t'] 60)))
      have HQ3 := Lib.hid ((HQ.out.below hb).below (ref_al w3 (.cells #[.int .i64 k, .slice A3 rs'.length c3, .slice B3 qs'.length d3, .int .i64 t'] 60)))
      have P1' := Lib.hid (P1.out.below (ref_al w3 (.cells #[.int .i64 k, .slice A3 rs'.length c3, .slice B3 qs'.length d3, .int .i64 t'] 60)))
      have P2' := Lib.hid (P2.out.below (ref_al w3 (.cells #[.int .i64 k, .slice A3 rs'.length c3, .slice B3 qs'.length d3, .int .i64 t'] 60)))
      clear o1 o2 hap hb s0 s1 s2 s3 hm0 HTW
      obtain ⟨s0, s1, s2, s3⟩ := HQ3.out.tab
      have gf := HQ3.out.free
      have HOKH := Lib.hid hok
      have HSTH := Lib.hid hstop
      have HGOH := Lib.hid hgo
      clear hok hstop hgo
      by_cases hc : code = 0
      case neg =>
        have hx := HXR.out
        rw [HSTH.out hc] at hx
        subst hx
        have hc' : (code != 0) = true := by simpa using hc
        have hc2 : (code == 0) = false := by simpa using hc
        clear HXR HOKH HSTH HGOH
        obtain ⟨⟨b0, b1, b2, b3⟩, ⟨f0, f1, f2, f3⟩, _, _⟩ := HR3.out
        have ha := HQ3.out.2.2.2.2
        go_wp2_with fail
        have HR2 := HR3
        have HQ2 := HQ3
        obtain ⟨r1, r2, r3⟩ := HR2.out.fin HQ2.out.2.2.1 HQ2.out.2.2.2.1 (.int .i64 k) (.slice A rs.length c2) (.slice B qs.length d) (.int .i64 (t))
        obtain ⟨x0, x1, x2, x3⟩ := HR2.out.res (.int .i64 k) (.slice A rs.length c2) (.slice B qs.length d) (.int .i64 (t))
        refine bodyPost_ret (v := .tuple #[.agg #[.int .i64 k, .slice A rs.length c2, .slice B qs.length d, .int .i64 (t)], .int .i64 code]) (by simp [results, Try.results109, go_sem, x0, x1, x2, x3]) rfl ⟨A, c2, B, d, rfl, r1, r2, ha, r3⟩
      case pos =>
        subst hc
        have hx := HXR.out
        rw [HGOH.out rfl] at hx
        obtain ⟨_, ht2, hwk, ht3⟩ := HOKH.out rfl
        have HXE := Lib.hid hx
        have HWK := Lib.hid (bd_ok hwk)
        have hte : (201 : Nat) - t'.toNat = 200 - t.toNat := by omega
        have HTE := Lib.hid hte
        have HT3 := Lib.hid (show (0 ≤ t' ∧ t' ≤ 200) ∧ t' = t + 1 from ⟨by omega, ht3⟩)
        clear hx HXR HOKH HSTH HGOH hwk hte ht3
        have HZ := Lib.hid (HQ3.out.over (k' := k) (t' := t') (by decide) P1'.out P2'.out HAP.out)
        have HRZ := Lib.hid ((((HR3.out.setAt HQ3.out.2.1 0 (.int .i64 k)).setAt HQ3.out.2.1 1 (.slice A3 rs'.length c3)).setAt HQ3.out.2.1 2 (.slice B3 qs'.length d3)).setAt HQ3.out.2.1 3 (.int .i64 t'))
        obtain ⟨v1, v2, v3⟩ := HQ3.out.tab4 (.int .i64 k) (.slice A3 rs'.length c3) (.slice B3 qs'.length d3) (.int .i64 t')
        have s3o := HQ.out.tab.2.2.2
        try go_wp2_with fail
        go_roundw
        case rel => exact ⟨rs', qs', t', A3, c3, B3, d3, HRZ.out, HZ.out, HWK.out, HT3.out.1, by rw [HTE.out]; exact HXE.out⟩
        case measure => rw [HZ.out.tab.2.2.2, s3o]; have := HT3.out; simp only [cellI]; omega
set_option maxRecDepth 100000 in
set_option maxHeartbeats 8000000 in
theorem l06Run_c (k : Int) (ad : Addr) (c : Nat) (es : List M.Rule) (w : World) (hA : Rd w 2 (some ad) es.length (ruls es)) (hl : es.length ≤ 1048576) (hs : ∀ r ∈ es, r.left.length ≤ 1048576 ∧ r.right.length ≤ 1048576) :
    Calls Try.prog 107 #[.int .i64 k, .slice (some ad) es.length c] w (RetTurn 84 (M.startK k es) (M.run k es) w) := by
  have HA := Lib.hid (fun W (hb : Below w.heap.size w W) => hA.below hb)
  have HST := Lib.hid (fun W h => spec_StartWork_s k ad c es W h hl hs)
  have HBD := Lib.hid (show Bd [] es from ⟨by simp, fun r hr => by simp at hr, hl, hs⟩)
  have H0 := Lib.hid (show ResF w (w.alloc (.cells #[.int .i64 0, .slice none 0 0, .slice none 0 0, .int .i64 0] 60)) from ⟨⟨by simp [go_sem], by simp [go_sem], by simp [go_sem], by simp [go_sem]⟩, ⟨by simp [go_sem], by simp [go_sem], by simp [go_sem], by simp [go_sem]⟩, by simp, below_al (Below.refl _ _) _⟩)
  obtain ⟨n0, hn0⟩ : ∃ n0, n0 = es.length := ⟨_, rfl⟩
  have HN0 := Lib.hid hn0
  rw [← hn0] at HA HST ⊢
  clear hA hl hs hn0
  obtain ⟨X, hX⟩ : ∃ X, X = M.run k es := ⟨_, rfl⟩
  rw [← hX]
  have HX := Lib.hid hX
  clear hX
  cases hso : M.startOk k es with
  | false =>
    rw [(start_no hso).1] at HST ⊢
    rw [(start_no hso).2, hso] at HST
    have hX := HX.out
    unfold M.run at hX
    rw [if_neg (by rw [hso]; simp)] at hX
    subst hX
    unfold RetStartS at HST
    simp only [List.length_nil] at HST
    clear HX HBD hso HN0
    go_enter Try.func107, Try.ntmps107
    go_wp2_with fail
    refine (HST.out _ (HA.out _ H0.out.2.2.2)).mono ?_
    rintro e w1 ⟨A1, c1, rfl, o1, hb⟩
    have Q1 := Lib.hid ((H0.out.below hb).below (ref_al w1 (.cells #[.int .i64 0, .slice none 0 0, .slice A1 0 c1, .int .i64 0] 60)))
    clear hb o1
    obtain ⟨⟨b0, b1, b2, b3⟩, ⟨f0, f1, f2, f3⟩, _, _⟩ := Q1.out
    go_wp2_with fail
    obtain ⟨r1, r2, r3⟩ := Q1.out.fin (e := 84) ownS_none ownS_none (.int .i64 0) (.slice none 0 0) (.slice none 0 0) (.int .i64 0)
    obtain ⟨x0, x1, x2, x3⟩ := Q1.out.res (.int .i64 0) (.slice none 0 0) (.slice none 0 0) (.int .i64 0)
    refine bodyPost_ret (v := .tuple #[.agg #[.int .i64 0, .slice none 0 0, .slice none 0 0, .int .i64 0], .int .i64 4]) (by simp [results, Try.results107, go_sem, x0, x1, x2, x3]) rfl ⟨none, 0, none, 0, rfl, r1, r2, fun y h1 h2 => by simp [blkS] at h1, r3⟩
  | true =>
  rw [(start_yes hso).1] at HST ⊢
  rw [(start_yes hso).2, hso] at HST
  have HX2 := Lib.hid (show M.runTo k 201 [] es 0 = X from by rw [HX.out]; unfold M.run; rw [if_pos hso])
  unfold RetStartS at HST
  clear HX hso
  have HTW := Lib.hid (fun W rs qs t A c B d hA hB (hd : qs.length ≤ d) (hb : Bd rs qs) => spec_TurnWork_c k A c rs B d qs t W hA hB hb.1 hb.2.1 hb.2.2.1 hb.2.2.2)
  go_enter Try.func107, Try.ntmps107
  go_wp2_with fail
  refine (HST.out _ (HA.out _ H0.out.2.2.2)).mono ?_
  rintro e w1 ⟨A1, c1, rfl, o1, hb⟩
  rw [← HN0.out] at o1
  have Q1 := Lib.hid ((H0.out.below hb).below (ref_al w1 (.cells #[.int .i64 k, .slice none 0 0, .slice A1 es.length c1, .int .i64 0] 60)))
  have HO := Lib.hid (show OutQ 84 60 (w.heap.size + 1) (w1.alloc (.cells #[.int .i64 k, .slice none 0 0, .slice A1 es.length c1, .int .i64 0] 60)) w1.heap.size k none 0 0 (ruls []) A1 es.length c1 (ruls es) 0 from
    OutQ.made (ownS_none) ((by rw [HN0.out] at o1; exact o1 : OwnS w1 _ 84 2 A1 es.length c1 (ruls es)).mono (by have := H0.out.2.2.1; simp)) (fun y h1 h2 => by simp [blkS] at h1) (by have := (H0.out.below hb).2.2.1; exact this))
  clear hb o1 HST HA
  go_wp2_with fail
  generalize w1.alloc (.cells #[.int .i64 k, .slice none 0 0, .slice A1 es.length c1, .int .i64 0] 60) = w2 at *
  generalize w1.heap.size = g6 at *
  go_loopw [9] (fun z wr => ∃ (rs qs : List M.Rule) (t : Int) (A : Option Addr) (c : Nat) (B : Option Addr) (d : Nat), ResF w wr ∧ OutQ 84 60 (w.heap.size + 1) wr g6 k A rs.length c (ruls rs) B qs.length d (ruls qs) t ∧ Bd rs qs ∧ (0 ≤ t ∧ t ≤ 200) ∧ M.runTo k (201 - t.toNat) rs qs t = X) (fun z wr => 201 - cellI (wr.cell? ⟨g6, 3, none⟩))
  case atStart => exact ⟨[], es, 0, none, 0, A1, c1, Q1.out, HO.out, HBD.out, ⟨by omega, by omega⟩, HX2.out⟩
  case round =>
    clear Q1 HO HBD HX2
    obtain ⟨rs, qs, t, A, c2, B, d, hr, hq, hbd, ht, hx⟩ := hrel
    have HR := Lib.hid hr
    have HQ := Lib.hid hq
    have HB := Lib.hid hbd
    have HXR := Lib.hid hx
    clear hr hq hbd hx
    have hf : 201 - t.toNat = (200 - t.toNat) + 1 := by omega
    rw [hf] at HXR
    clear hf
    obtain ⟨s0, s1, s2, s3⟩ := HQ.out.tab
    by_cases hqe : qs = []
    case pos =>
      subst hqe
      have hx := HXR.out
      rw [runTo_end] at hx
      subst hx
      clear HXR HTW
      obtain ⟨⟨b0, b1, b2, b3⟩, ⟨f0, f1, f2, f3⟩, _, _⟩ := HR.out
      have ha := HQ.out.2.2.2.2
      simp only [List.length_nil] at s2
      go_wp2_with fail
      have HR2 := HR
      have HQ2 := HQ
      obtain ⟨r1, r2, r3⟩ := HR2.out.fin HQ2.out.2.2.1 HQ2.out.2.2.2.1 (.int .i64 k) (.slice A rs.length c2) (.slice B 0 d) (.int .i64 (t))
      obtain ⟨x0, x1, x2, x3⟩ := HR2.out.res (.int .i64 k) (.slice A rs.length c2) (.slice B 0 d) (.int .i64 (t))
      refine bodyPost_ret (v := .tuple #[.agg #[.int .i64 k, .slice A rs.length c2, .slice B 0 d, .int .i64 (t)], .int .i64 0]) (by simp [results, Try.results107, go_sem, x0, x1, x2, x3]) rfl ⟨A, c2, B, d, rfl, r1, r2, ha, r3⟩
    case neg =>
      have hm0 : (0 : Int) < (qs.length : Int) := by have := List.length_pos_iff.2 hqe; omega
      go_wp2_with fail
      refine (HTW.out _ rs qs t A c2 B d HQ.out.2.2.1.own.rd HQ.out.2.2.2.1.own.rd HQ.out.2.2.2.1.2.1 HB.out).mono ?_
      rintro e w3 ⟨A3, c3, B3, d3, rfl, o1, o2, hap, hb⟩
      have hok := fun hc => turn_ok (k := k) (t := t) (rs := rs) hqe hc
      have hstop := fun hc => runTo_stop (k := k) (f := 200 - t.toNat) (rs := rs) (t := t) hqe hc
      have hgo := fun hc => runTo_go (k := k) (f := 200 - t.toNat) (rs := rs) (t := t) hqe hc
      generalize M.turn k rs qs t = y at *
      obtain ⟨rs', qs', t', code⟩ := y
      simp only at o1 o2 hok hstop hgo ⊢
      have P1 := Lib.hid (o1.mono (base' := w.heap.size + 1) HR.out.2.2.1)
      have P2 := Lib.hid (o2.mono (base' := w.heap.size + 1) HR.out.2.2.1)
      have HAP := Lib.hid hap
      have HR3 := Lib.hid ((HR.out.below hb).below (ref_al w3 (.cells #[.int .i64 k, .slice A3 rs'.length c3, .slice B3 qs'.length d3, .int .i64 t'] 60)))
      have HQ3 := Lib.hid ((HQ.out.below hb).below (ref_al w3 (.cells #[.int .i64 k, .slice A3 rs'.length c3, .slice B3 qs'.length d3, .int .i64 t'] 60)))
      have P1' := Lib.hid (P1.out.below (ref_al w3 (.cells #[.int .i64 k, .slice A3 rs'.length c3, .slice B3 qs'.length d3, .int .i64 t'] 60)))
      have P2' := Lib.hid (P2.out.below (ref_al w3 (.cells #[.int .i64 k, .slice A3 rs'.length c3, .slice B3 qs'.length d3, .int .i64 t'] 60)))
      clear o1 o2 hap hb s0 s1 s2 s3 hm0 HTW
      obtain ⟨s0, s1, s2, s3⟩ := HQ3.out.tab
      have gf := HQ3.out.free
      have HOKH := Lib.hid hok
      have HSTH := Lib.hid hstop
      have HGOH := Lib.hid hgo
      clear hok hstop hgo
      by_cases hc : code = 0
      case neg =>
        have hx := HXR.out
        rw [HSTH.out hc] at hx
        subst hx
        have hc' : (code != 0) = true := by simpa using hc
        have hc2 : (code == 0) = false := by simpa using hc
        clear HXR HOKH HSTH HGOH
        obtain ⟨⟨b0, b1, b2, b3⟩, ⟨f0, f1, f2, f3⟩, _, _⟩ := HR3.out
        have ha := HQ3.out.2.2.2.2
        go_wp2_with fail
        have HR2 := HR3
        have HQ2 := HQ3
        obtain ⟨r1, r2, r3⟩ := HR2.out.fin HQ2.out.2.2.1 HQ2.out.2.2.2.1 (.int .i64 k) (.slice A rs.length c2) (.slice B qs.length d) (.int .i64 (t))
        obtain ⟨x0, x1, x2, x3⟩ := HR2.out.res (.int .i64 k) (.slice A rs.length c2) (.slice B qs.length d) (.int .i64 (t))
        refine bodyPost_ret (v := .tuple #[.agg #[.int .i64 k, .slice A rs.length c2, .slice B qs.length d, .int .i64 (t)], .int .i64 code]) (by simp [results, Try.results107, go_sem, x0, x1, x2, x3]) rfl ⟨A, c2, B, d, rfl, r1, r2, ha, r3⟩
      case pos =>
        subst hc
        have hx := HXR.out
        rw [HGOH.out rfl] at hx
        obtain ⟨_, ht2, hwk, ht3⟩ := HOKH.out rfl
        have HXE := Lib.hid hx
        have HWK := Lib.hid (bd_ok hwk)
        have hte : (201 : Nat) - t'.toNat = 200 - t.toNat := by omega
        have HTE := Lib.hid hte
        have HT3 := Lib.hid (show (0 ≤ t' ∧ t' ≤ 200) ∧ t' = t + 1 from ⟨by omega, ht3⟩)
        clear hx HXR HOKH HSTH HGOH hwk hte ht3
        have HZ := Lib.hid (HQ3.out.over (k' := k) (t' := t') (by decide) P1'.out P2'.out HAP.out)
        have HRZ := Lib.hid ((((HR3.out.setAt HQ3.out.2.1 0 (.int .i64 k)).setAt HQ3.out.2.1 1 (.slice A3 rs'.length c3)).setAt HQ3.out.2.1 2 (.slice B3 qs'.length d3)).setAt HQ3.out.2.1 3 (.int .i64 t'))
        obtain ⟨v1, v2, v3⟩ := HQ3.out.tab4 (.int .i64 k) (.slice A3 rs'.length c3) (.slice B3 qs'.length d3) (.int .i64 t')
        have s3o := HQ.out.tab.2.2.2
        try go_wp2_with fail
        go_roundw
        case rel => exact ⟨rs', qs', t', A3, c3, B3, d3, HRZ.out, HZ.out, HWK.out, HT3.out.1, by rw [HTE.out]; exact HXE.out⟩
        case measure => rw [HZ.out.tab.2.2.2, s3o]; have := HT3.out; simp only [cellI]; omega
end Go.Proofs.Ytlohpphmamapeaa
/-
  Contracts of Complete and TurnsFor, of the program and of the reference.
  Conditions: at most 2^20 equations of at most 2^20 letters; the global MaxLen holds an int.
-/
namespace Go.Proofs.Ytlohpphmamapeaa
open Go.RowKit
set_option linter.unusedVariables false
set_option linter.unusedSimpArgs false

/-- What Complete returns: the system, its rules its own, and the code. -/
def RetComp (e : TypeId) (k : Int) (x : M.Wk) (w : World) (r : Ending) (w' : World) : Prop :=
  ∃ A c, r = .returned (.tuple #[.agg #[.int .i64 k, .slice A x.rs.length c], .int .i64 x.code]) ∧ OwnS w' w.heap.size e 2 A x.rs.length c (ruls x.rs) ∧ Below w.heap.size w w'
def M.turnsOf (x : M.Wk) : Int := if x.code = 0 then x.t else -1
theorem runTo_size {k : Int} : ∀ (f : Nat) {rs qs : List M.Rule} {t : Int}, rs.length ≤ 1048576 → qs.length ≤ 1048576 → (M.runTo k f rs qs t).rs.length ≤ 1048576 ∧ (M.runTo k f rs qs t).qs.length ≤ 1048576
  | 0, rs, qs, t, h1, h2 => ⟨h1, h2⟩
  | f + 1, rs, qs, t, h1, h2 => by
    rw [M.runTo]
    have h := turn_size (k := k) (t := t) h1 h2
    split
    · exact ⟨h1, h2⟩
    · split
      · exact runTo_size f h.1 h.2
      · exact ⟨h1, h2⟩
theorem run_size {k : Int} {es : List M.Rule} (h : es.length ≤ 1048576) : (M.run k es).rs.length ≤ 1048576 := by
  unfold M.run
  split
  · exact (runTo_size 201 (by simp) h).1
  · simp
set_option maxRecDepth 100000 in
set_option maxHeartbeats 4000000 in
theorem spec_Complete_c (k : Int) (ad : Addr) (c : Nat) (es : List M.Rule) (w : World) (hA : Rd w 2 (some ad) es.length (ruls es)) (hl : es.length ≤ 1048576) (hs : ∀ r ∈ es, r.left.length ≤ 1048576 ∧ r.right.length ≤ 1048576) :
    Calls Try.prog 49 #[.int .i64 k, .slice (some ad) es.length c] w (RetComp 84 (M.startK k es) (M.run k es) w) := by
  have HA := Lib.hid (fun W (hb : Below w.heap.size w W) => hA.below hb)
  have HR := Lib.hid (fun W h => l06Run_c k ad c es W h hl hs)
  clear hA
  unfold RetComp
  generalize M.startK k es = sk at *
  generalize M.run k es = X at *
  obtain ⟨ys, zs, tt, code⟩ := X
  simp only at HR ⊢
  unfold RetTurn at HR
  simp only at HR
  go_enter Try.func49, Try.ntmps49
  go_wp2_with fail
  refine (HR.out _ (HA.out _ (below_al (Below.refl _ _) _))).mono ?_
  rintro e w1 ⟨A, c1, B, d, rfl, o1, o2, hap, hb⟩
  have b0 : w1.cell? ⟨w.heap.size, 0, none⟩ = some (.int .i64 0) := cellKeep hb (by simp [go_sem])
  have b1 : w1.cell? ⟨w.heap.size, 1, none⟩ = some (.slice none 0 0) := cellKeep hb (by simp [go_sem])
  have f0 : w1.frozen? ⟨w.heap.size, 0, none⟩ = false := ((bcell hb).2 _ _ (by simp)).trans (by simp [go_sem])
  have f1 : w1.frozen? ⟨w.heap.size, 1, none⟩ = false := ((bcell hb).2 _ _ (by simp)).trans (by simp [go_sem])
  have AL := ref_al w1 (.cells #[.int .i64 sk, .slice A ys.length c1, .slice B zs.length d, .int .i64 tt] 60)
  have g0 := cellKeep AL b0
  have g1 := cellKeep AL b1
  have gf0 := frozenKeep AL b0 f0
  have gf1 := frozenKeep AL b1 f1
  have HO := Lib.hid (o1.below AL)
  have HB := Lib.hid ((below_al (Below.refl w.heap.size w) (.cells #[.int .i64 0, .slice none 0 0] 28)).trans ((hb.trans (AL.mono hb.size)).mono (by simp)))
  clear o1 o2 hap hb AL b0 b1 f0 f1
  go_wp2_with fail
  have r0 := (cell_set_ne (b := w.heap.size) (o := 1) (.slice A ys.length c1) (Or.inr (show (1 : Nat) ≠ 0 by decide))).trans (cell_set_eq (.int .i64 sk) g0)
  have r1 := cell_two' g1 (.int .i64 sk) (.slice A ys.length c1)
  refine bodyPost_ret (v := .tuple #[.agg #[.int .i64 sk, .slice A ys.length c1], .int .i64 code]) (by simp [results, Try.results49, go_sem, r0, r1]) rfl ⟨A, c1, rfl, ?_, ?_⟩
  · exact ((HO.out.setLow (by simp)).setLow (by simp)).mono (by simp)
  · exact (HB.out.setCell (by simp) _).setCell (by simp) _
set_option maxRecDepth 100000 in
set_option maxHeartbeats 4000000 in
theorem spec_TurnsFor_c (k : Int) (ad : Addr) (c : Nat) (es : List M.Rule) (w : World) (hA : Rd w 2 (some ad) es.length (ruls es)) (hl : es.length ≤ 1048576) (hs : ∀ r ∈ es, r.left.length ≤ 1048576 ∧ r.right.length ≤ 1048576) :
    Calls Try.prog 54 #[.int .i64 k, .slice (some ad) es.length c] w fun e w' => e = .returned (.int .i64 (M.turnsOf (M.run k es))) ∧ Below w.heap.size w w' := by
  have HA := Lib.hid hA
  have HR := Lib.hid (fun W h => l06Run_c k ad c es W h hl hs)
  clear hA
  unfold M.turnsOf
  generalize M.startK k es = sk at *
  generalize M.run k es = X at *
  obtain ⟨ys, zs, tt, code⟩ := X
  simp only at HR ⊢
  unfold RetTurn at HR
  simp only at HR
  by_cases hc : code = 0
  case pos =>
    rw [if_pos hc]
    subst hc
    go_enter Try.func54, Try.ntmps54
    go_wp2_with fail
    refine (HR.out _ HA.out).mono ?_
    rintro e w1 ⟨A, c1, B, d, rfl, o1, o2, hap, hb⟩
    have HB := Lib.hid (hb.trans ((ref_al w1 (.cells #[.int .i64 sk, .slice A ys.length c1, .slice B zs.length d, .int .i64 tt] 60)).mono hb.size))
    clear o1 o2 hap hb
    go_wp2_with fail
    go_ret
    exact ⟨rfl, HB.out⟩
  case neg =>
    rw [if_neg hc]
    have hc1 : (code != 0) = true := by simpa using hc
    go_enter Try.func54, Try.ntmps54
    go_wp2_with fail
    refine (HR.out _ HA.out).mono ?_
    rintro e w1 ⟨A, c1, B, d, rfl, o1, o2, hap, hb⟩
    have HB := Lib.hid (hb.trans ((ref_al w1 (.cells #[.int .i64 sk, .slice A ys.length c1, .slice B zs.length d, .int .i64 tt] 60)).mono hb.size))
    clear o1 o2 hap hb
    go_wp2_with fail
    go_ret
    exact ⟨rfl, HB.out⟩
set_option maxRecDepth 100000 in
set_option maxHeartbeats 4000000 in
theorem impl_Complete_c (mx : Int) (k : Int) (ad : Addr) (c : Nat) (es : List M.Rule) (w : World) (hA : Rd w 2 (some ad) es.length (ruls es)) (hl : es.length ≤ 1048576) (hs : ∀ r ∈ es, r.left.length ≤ 1048576 ∧ r.right.length ≤ 1048576) (hmx : w.cell? ⟨0, 0, none⟩ = some (.int .i64 mx)) :
    Calls Try.prog 51 #[.int .i64 k, .slice (some ad) es.length c] w (RetComp 84 (M.startK k es) (M.run k es) w) := by
  have HA := Lib.hid (fun W (hb : Below w.heap.size w W) => hA.below hb)
  have HR := Lib.hid (fun W h hm => completed_c mx k ad c es W h hl hs hm)
  have HMX := Lib.hid (fun W (hb : Below w.heap.size w W) => cellKeep hb hmx)
  clear hA hmx
  unfold RetComp
  generalize M.startK k es = sk at *
  generalize M.run k es = X at *
  obtain ⟨ys, zs, tt, code⟩ := X
  simp only at HR ⊢
  unfold RetTurn at HR
  simp only at HR
  go_enter Try.func51, Try.ntmps51
  go_wp2_with fail
  refine (HR.out _ (HA.out _ (below_al (Below.refl _ _) _)) (HMX.out _ (below_al (Below.refl _ _) _))).mono ?_
  rintro e w1 ⟨A, c1, B, d, rfl, o1, o2, hap, hb⟩
  have b0 : w1.cell? ⟨w.heap.size, 0, none⟩ = some (.int .i64 0) := cellKeep hb (by simp [go_sem])
  have b1 : w1.cell? ⟨w.heap.size, 1, none⟩ = some (.slice none 0 0) := cellKeep hb (by simp [go_sem])
  have f0 : w1.frozen? ⟨w.heap.size, 0, none⟩ = false := ((bcell hb).2 _ _ (by simp)).trans (by simp [go_sem])
  have f1 : w1.frozen? ⟨w.heap.size, 1, none⟩ = false := ((bcell hb).2 _ _ (by simp)).trans (by simp [go_sem])
  have AL := ref_al w1 (.cells #[.int .i64 sk, .slice A ys.length c1, .slice B zs.length d, .int .i64 tt] 60)
  have g0 := cellKeep AL b0
  have g1 := cellKeep AL b1
  have gf0 := frozenKeep AL b0 f0
  have gf1 := frozenKeep AL b1 f1
  have HO := Lib.hid (o1.below AL)
  have HB := Lib.hid ((below_al (Below.refl w.heap.size w) (.cells #[.int .i64 0, .slice none 0 0] 28)).trans ((hb.trans (AL.mono hb.size)).mono (by simp)))
  clear o1 o2 hap hb AL b0 b1 f0 f1
  go_wp2_with fail
  have r0 := (cell_set_ne (b := w.heap.size) (o := 1) (.slice A ys.length c1) (Or.inr (show (1 : Nat) ≠ 0 by decide))).trans (cell_set_eq (.int .i64 sk) g0)
  have r1 := cell_two' g1 (.int .i64 sk) (.slice A ys.length c1)
  refine bodyPost_ret (v := .tuple #[.agg #[.int .i64 sk, .slice A ys.length c1], .int .i64 code]) (by simp [results, Try.results51, go_sem, r0, r1]) rfl ⟨A, c1, rfl, ?_, ?_⟩
  · exact ((HO.out.setLow (by simp)).setLow (by simp)).mono (by simp)
  · exact (HB.out.setCell (by simp) _).setCell (by simp) _
set_option maxRecDepth 100000 in
set_option maxHeartbeats 4000000 in
theorem impl_TurnsFor_c (mx : Int) (k : Int) (ad : Addr) (c : Nat) (es : List M.Rule) (w : World) (hA : Rd w 2 (some ad) es.length (ruls es)) (hl : es.length ≤ 1048576) (hs : ∀ r ∈ es, r.left.length ≤ 1048576 ∧ r.right.length ≤ 1048576) (hmx : w.cell? ⟨0, 0, none⟩ = some (.int .i64 mx)) :
    Calls Try.prog 55 #[.int .i64 k, .slice (some ad) es.length c] w fun e w' => e = .returned (.int .i64 (M.turnsOf (M.run k es))) ∧ Below w.heap.size w w' := by
  have HA := Lib.hid hA
  have HR := Lib.hid (fun W h hm => completed_c mx k ad c es W h hl hs hm)
  have HMX := Lib.hid hmx
  clear hA hmx
  unfold M.turnsOf
  generalize M.startK k es = sk at *
  generalize M.run k es = X at *
  obtain ⟨ys, zs, tt, code⟩ := X
  simp only at HR ⊢
  unfold RetTurn at HR
  simp only at HR
  by_cases hc : code = 0
  case pos =>
    rw [if_pos hc]
    subst hc
    go_enter Try.func55, Try.ntmps55
    go_wp2_with fail
    refine (HR.out _ HA.out HMX.out).mono ?_
    rintro e w1 ⟨A, c1, B, d, rfl, o1, o2, hap, hb⟩
    have HB := Lib.hid (hb.trans ((ref_al w1 (.cells #[.int .i64 sk, .slice A ys.length c1, .slice B zs.length d, .int .i64 tt] 60)).mono hb.size))
    clear o1 o2 hap hb
    go_wp2_with fail
    go_ret
    exact ⟨rfl, HB.out⟩
  case neg =>
    rw [if_neg hc]
    have hc1 : (code != 0) = true := by simpa using hc
    go_enter Try.func55, Try.ntmps55
    go_wp2_with fail
    refine (HR.out _ HA.out HMX.out).mono ?_
    rintro e w1 ⟨A, c1, B, d, rfl, o1, o2, hap, hb⟩
    have HB := Lib.hid (hb.trans ((ref_al w1 (.cells #[.int .i64 sk, .slice A ys.length c1, .slice B zs.length d, .int .i64 tt] 60)).mono hb.size))
    clear o1 o2 hap hb
    go_wp2_with fail
    go_ret
    exact ⟨rfl, HB.out⟩
end Go.Proofs.Ytlohpphmamapeaa
/-
  What the reference's cursor gives: some byte; a number below a bound; a word of some letters.
  Conditions: a code of at most 2^20 bytes.
-/
namespace Go.Proofs.Ytlohpphmamapeaa
open Go.RowKit
set_option linter.unusedVariables false
set_option linter.unusedSimpArgs false

def u8s (l : List UInt8) : List Value := l.map fun x => .int .u8 (x.toNat : Int)
theorem u8s_len (l : List UInt8) : (u8s l).length = l.length := by simp [u8s]
theorem u8s_at {l : List UInt8} {k : Nat} (h : k < l.length) : (u8s l)[k]? = some (.int .u8 (l[k].toNat : Int)) := by simp [u8s, h]
theorem and255 (x : Int) : 0 ≤ bits .and .i64 x 255 ∧ bits .and .i64 x 255 ≤ 255 := by
  obtain ⟨n, hn, hb⟩ : ∃ n : Nat, bits .and .i64 x 255 = IntKind.i64.wrap (n : Int) ∧ n ≤ 255 := by
    refine ⟨(BitVec.ofInt 64 x &&& BitVec.ofInt 64 255).toNat, rfl, ?_⟩
    rw [BitVec.toNat_and]
    exact Nat.and_le_right
  rw [hn, Go.IntWalk.i64_in _ (by omega)]
  omega
/-- A cursor at block b over a code that lies in another block. -/
structure CurOk (w : World) (b : Nat) (A : Option Addr) (n c : Nat) (bs : List UInt8) : Prop where
  c0 : w.cell? ⟨b, 0, none⟩ = some (.slice A n c)
  c1 : ∃ i : Nat, w.cell? ⟨b, 1, none⟩ = some (.int .i64 i) ∧ i ≤ n
  c2 : ∃ h : Int, w.cell? ⟨b, 2, none⟩ = some (.int .i64 h)
  f1 : w.frozen? ⟨b, 1, none⟩ = false
  f2 : w.frozen? ⟨b, 2, none⟩ = false
  rd : Rd w 1 A n (u8s bs)
  off : ∀ ad, A = some ad → 0 < n → ad.block ≠ b
theorem Rd.setOff {w : World} {A : Option Addr} {n b o : Nat} {xs : List Value} {u : Value} (h : Rd w 1 A n xs) (hb : ∀ ad, A = some ad → 0 < n → ad.block ≠ b) : Rd (w.setCell ⟨b, o, none⟩ u) 1 A n xs :=
  ⟨h.1, fun hn => by
    obtain ⟨g, q, e, hc⟩ := h.2 hn
    exact ⟨g, q, e, fun j v hv => by rw [cell_set_ne _ (Or.inl (fun e2 => hb _ e hn e2.symm))]; exact hc j v hv⟩⟩
/-- Every block that was there but b stands as it stood. -/
def Off (b : Nat) (w w' : World) : Prop := w.heap.size ≤ w'.heap.size ∧ ∀ g, g < w.heap.size → g ≠ b → w'.heap[g]? = w.heap[g]?
theorem Off.refl (b : Nat) (w : World) : Off b w w := ⟨Nat.le_refl _, fun _ _ _ => rfl⟩
theorem Off.set {b o : Nat} {w w' : World} (h : Off b w w') (u : Value) : Off b w (w'.setCell ⟨b, o, none⟩ u) := ⟨by simpa using h.1, fun g hg hne => by rw [heap_setCell_other w' ⟨b, o, none⟩ g u (fun e => hne (by simpa using e))]; exact h.2 g hg hne⟩
theorem Off.below {b : Nat} {w w1 w2 : World} (h : Off b w w1) (hb : Below w1.heap.size w1 w2) : Off b w w2 := ⟨Nat.le_trans h.1 hb.size, fun g hg hne => by rw [hb.block g (Nat.lt_of_lt_of_le hg h.1)]; exact h.2 g hg hne⟩
theorem Off.trans {b : Nat} {w w1 w2 : World} (h : Off b w w1) (h' : Off b w1 w2) : Off b w w2 := ⟨Nat.le_trans h.1 h'.1, fun g hg hne => by rw [h'.2 g (Nat.lt_of_lt_of_le hg h.1) hne]; exact h.2 g hg hne⟩
theorem Off.rd {b s n : Nat} {w w' : World} {A : Option Addr} {xs : List Value} (h : Off b w w') (hr : Rd w s A n xs) (hA : ∀ ad, A = some ad → ad.block ≠ b ∧ ad.block < w.heap.size) : Rd w' s A n xs :=
  ⟨hr.1, fun hn => by
    obtain ⟨g, o, e, hc⟩ := hr.2 hn
    obtain ⟨h1, h2⟩ := hA _ e
    exact ⟨g, o, e, fun j u hu => (World.cell?_of_block (h.2 g h2 h1)).trans (hc j u hu)⟩⟩
/-- What a step of the cursor leaves: the cursor, all that lay below its block, and every other block. -/
def CurStep (b : Nat) (A : Option Addr) (n c : Nat) (bs : List UInt8) (w w' : World) : Prop := CurOk w' b A n c bs ∧ (∀ B w0, B ≤ b → Below B w0 w → Below B w0 w') ∧ Off b w w'
theorem CurStep.trans {b : Nat} {A : Option Addr} {n c : Nat} {bs : List UInt8} {w w1 w2 : World} (h : CurStep b A n c bs w w1) (h' : CurStep b A n c bs w1 w2) : CurStep b A n c bs w w2 := ⟨h'.1, fun B w0 hB hb => h'.2.1 B w0 hB (h.2.1 B w0 hB hb), h.2.2.trans h'.2.2⟩
theorem CurOk.below {w w' : World} {b : Nat} {A : Option Addr} {n c : Nat} {bs : List UInt8} (h : CurOk w b A n c bs) (hb : Below w.heap.size w w') : CurOk w' b A n c bs := by
  obtain ⟨i, h1, hi⟩ := h.c1
  obtain ⟨z, h2⟩ := h.c2
  exact ⟨cellKeep hb h.c0, ⟨i, cellKeep hb h1, hi⟩, ⟨z, cellKeep hb h2⟩, ((bcell hb).2 _ _ (World.block_lt_of_cell? w _ h1)).trans h.f1, ((bcell hb).2 _ _ (World.block_lt_of_cell? w _ h1)).trans h.f2, h.rd.below hb, h.off⟩
theorem CurOk.drewN {w : World} {b : Nat} {A : Option Addr} {n c : Nat} {bs : List UInt8} (h : CurOk w b A n c bs) (k : Nat) : CurOk (w.drewN k) b A n c bs := h.below (below_drewN (Below.refl _ _) k)
theorem CurOk.set2 {w : World} {b : Nat} {A : Option Addr} {n c : Nat} {bs : List UInt8} (h : CurOk w b A n c bs) (z : Int) : CurOk (w.setCell ⟨b, 2, none⟩ (.int .i64 z)) b A n c bs := by
  obtain ⟨i, h1, hi⟩ := h.c1
  obtain ⟨y, h2⟩ := h.c2
  exact ⟨(cell_set_ne _ (by omega)).trans h.c0, ⟨i, (cell_set_ne _ (by omega)).trans h1, hi⟩, ⟨z, cell_set_eq _ h2⟩, by simpa using h.f1, by simpa using h.f2, h.rd.setOff h.off, h.off⟩
theorem CurOk.set1 {w : World} {b : Nat} {A : Option Addr} {n c : Nat} {bs : List UInt8} (h : CurOk w b A n c bs) {z : Nat} (hz : z ≤ n) : CurOk (w.setCell ⟨b, 1, none⟩ (.int .i64 (z : Int))) b A n c bs := by
  obtain ⟨i, h1, hi⟩ := h.c1
  obtain ⟨y, h2⟩ := h.c2
  exact ⟨(cell_set_ne _ (by omega)).trans h.c0, ⟨z, cell_set_eq _ h1, hz⟩, ⟨y, (cell_set_ne _ (by omega)).trans h2⟩, by simpa using h.f1, by simpa using h.f2, h.rd.setOff h.off, h.off⟩
set_option maxRecDepth 100000 in
set_option maxHeartbeats 4000000 in
theorem l01Byte_c (b : Nat) (A : Option Addr) (n c : Nat) (bs : List UInt8) (w : World) (hc : CurOk w b A n c bs) (hn : n ≤ 1048576) :
    Calls Try.prog 161 #[.pointer (some ⟨b, 0, none⟩)] w fun e w' => (∃ v : Int, e = .returned (.int .i64 v) ∧ 0 ≤ v ∧ v ≤ 255) ∧ CurStep b A n c bs w w' := by
  obtain ⟨i, h1, hi⟩ := hc.c1
  obtain ⟨h, h2⟩ := hc.c2
  have h0 := hc.c0
  have f1 := hc.f1
  have f2 := hc.f2
  have HC := Lib.hid hc
  have e0 : ∀ u, (w.setCell ⟨b, 2, none⟩ u).cell? ⟨b, 0, none⟩ = some (.slice A n c) := fun u => by rw [cell_set_ne _ (by omega)]; exact h0
  have e1 : ∀ u, (w.setCell ⟨b, 2, none⟩ u).cell? ⟨b, 1, none⟩ = some (.int .i64 i) := fun u => by rw [cell_set_ne _ (by omega)]; exact h1
  have e2 : ∀ u, (w.setCell ⟨b, 2, none⟩ u).cell? ⟨b, 2, none⟩ = some u := fun u => cell_set_eq u h2
  by_cases hlt : i < n
  case neg =>
    have hd : decide ((i : Int) < (n : Int)) = false := decide_eq_false (by omega)
    have hin : ¬ ((i : Int) < (n : Int)) := by omega
    clear hc hlt
    go_enter Try.func161, Try.ntmps161
    go_wp2_with fail
    go_quiet (fail)
    go_wp2_with fail
    go_quiet (fail)
    go_wp2_with fail
    go_ret
    refine ⟨⟨_, rfl, (and255 _).1, (and255 _).2⟩, ?_, fun B w0 hB hb => ?_, ?_⟩
    · repeat (first | exact (HC.out.set2 _) | refine CurOk.drewN ?_ _ | refine CurOk.below ?_ (Below.refl _ _).drew)
    · repeat (first | exact hb | refine Below.setCell ?_ hB _ | refine below_drewN ?_ _ | refine Below.drew ?_)
    · repeat (first | exact Off.refl _ _ | refine Off.set ?_ _ | refine Off.below ?_ (below_drewN (Below.refl _ _) _) | refine Off.below ?_ (Below.refl _ _).drew)
  case pos =>
    obtain ⟨g, o, rfl, hcs⟩ := hc.rd.2 (by omega)
    have hne := hc.off _ rfl (by omega)
    have hbl : i < bs.length := by have h := hc.rd.1; rw [u8s_len] at h; omega
    have hx := hcs i _ (u8s_at hbl)
    have e3 : ∀ u, (w.setCell ⟨b, 2, none⟩ u).cell? ⟨g, o + i, none⟩ = some (.int .u8 (bs[i].toNat : Int)) := fun u => by rw [cell_set_ne _ (Or.inl (fun e => hne e.symm))]; exact hx
    have hxb : (bs[i].toNat : Int) < 256 := by have := UInt8.toNat_lt bs[i]; omega
    generalize bs[i].toNat = xb at *
    have hd : decide ((i : Int) < (n : Int)) = true := decide_eq_true (by omega)
    have hin : (i : Int) < (n : Int) := by omega
    clear hc hcs hbl
    go_enter Try.func161, Try.ntmps161
    go_wp2_with fail
    go_quiet (fail)
    go_wp2_with fail
    go_quiet (fail)
    go_wp2_with fail
    go_quiet (fail)
    go_wp2_with fail
    go_ret
    refine ⟨⟨_, rfl, (and255 _).1, (and255 _).2⟩, ?_, fun B w0 hB hb => ?_, ?_⟩
    · have hs1 : ((i : Int) + 1) = ((i + 1 : Nat) : Int) := by omega
      rw [hs1]
      refine CurOk.set1 ?_ (by omega)
      repeat (first | exact (HC.out.set2 _) | refine CurOk.drewN ?_ _ | refine CurOk.below ?_ (Below.refl _ _).drew)
    · repeat (first | exact hb | refine Below.setCell ?_ hB _ | refine below_drewN ?_ _ | refine Below.drew ?_)
    · repeat (first | exact Off.refl _ _ | refine Off.set ?_ _ | refine Off.below ?_ (below_drewN (Below.refl _ _) _) | refine Off.below ?_ (Below.refl _ _).drew)

set_option maxRecDepth 100000 in
set_option maxHeartbeats 2000000 in
theorem l01Below_c (b : Nat) (A : Option Addr) (n c : Nat) (bs : List UInt8) (k : Int) (w : World) (hc : CurOk w b A n c bs) (hn : n ≤ 1048576) (hk1 : 1 ≤ k) (hk2 : k ≤ 256) :
    Calls Try.prog 158 #[.pointer (some ⟨b, 0, none⟩), .int .i64 k] w fun e w' => (∃ v : Int, e = .returned (.int .i64 v) ∧ 0 ≤ v ∧ v < k) ∧ CurStep b A n c bs w w' := by
  have h1 := Lib.hid (l01Byte_c b A n c bs w hc hn)
  clear hc
  go_enter Try.func158, Try.ntmps158
  go_wp2_with fail
  refine h1.out.mono ?_
  rintro e w1 ⟨⟨v, rfl, hv0, hv1⟩, hs⟩
  have HS := Lib.hid hs
  clear hs
  go_wp2_with fail
  go_ret
  refine ⟨⟨v % k, ret_int ?_, Int.emod_nonneg _ (by omega), Int.emod_lt_of_pos _ (by omega)⟩, HS.out⟩
  first | rfl | exact Int.tmod_eq_emod_of_nonneg hv0 | simp [Int.tmod_eq_emod_of_nonneg hv0]
set_option maxRecDepth 100000 in
set_option maxHeartbeats 2000000 in
theorem l01New_c (A : Option Addr) (n c : Nat) (bs : List UInt8) (w : World) (hA : Rd w 1 A n (u8s bs)) (hn : n ≤ 1048576) :
    Calls Try.prog 160 #[.slice A n c] w fun e w' => ∃ b, e = .returned (.pointer (some ⟨b, 0, none⟩)) ∧ w.heap.size ≤ b ∧ b < w'.heap.size ∧ CurOk w' b A n c bs ∧ Below w.heap.size w w' := by
  have HA := Lib.hid hA
  have HOFF := Lib.hid (fun ad (h : A = some ad) (h0 : 0 < n) => hA.lt (by decide) h0 h)
  clear hA
  go_enter Try.func160, Try.ntmps160
  go_wp2
  go_loopw [3, 4] (fun hv z wr => ∃ (i : Nat) (h : Int), i ≤ n ∧ z = .int .i64 i ∧ hv = .int .i64 h ∧ Below w.heap.size w wr) (fun _ z _ => n - (intOf z).toNat)
  case atStart => exact ⟨0, _, by omega, rfl, rfl, Below.refl _ _⟩
  case round =>
    obtain ⟨i, h, hi, rfl, rfl, hb⟩ := hrel
    have HB := Lib.hid hb
    by_cases hlt : i < n
    case neg =>
      have hin : ¬ ((i : Int) < (n : Int)) := by omega
      clear hb hlt
      go_wp2
      go_ret
      refine ⟨wr.heap.size, rfl, HB.out.size, by simp, ⟨by simp [go_sem], ⟨0, by simp [go_sem], by omega⟩, ⟨h, by simp [go_sem]⟩, by simp [go_sem], by simp [go_sem], (HA.out.below HB.out).below ((Below.refl _ _).alloc (Nat.le_refl _) _), fun ad he h0 e => ?_⟩, HB.out.alloc HB.out.size _⟩
      have h1 := HOFF.out ad he h0
      have h2 := HB.out.size
      omega
    case pos =>
    by_cases h4 : i < 4000
    case neg =>
      have h4' : ¬ ((i : Int) < 4000) := by omega
      clear hb h4
      go_wp2
      go_ret
      refine ⟨wr.heap.size, rfl, HB.out.size, by simp, ⟨by simp [go_sem], ⟨0, by simp [go_sem], by omega⟩, ⟨h, by simp [go_sem]⟩, by simp [go_sem], by simp [go_sem], (HA.out.below HB.out).below ((Below.refl _ _).alloc (Nat.le_refl _) _), fun ad he h0 e => ?_⟩, HB.out.alloc HB.out.size _⟩
      have h1 := HOFF.out ad he h0
      have h2 := HB.out.size
      omega
    case pos =>
      obtain ⟨g, o, rfl, hcs⟩ := (HA.out.below HB.out).2 (by omega)
      have hbl : i < bs.length := by have h := HA.out.1; rw [u8s_len] at h; omega
      have hx := hcs i _ (u8s_at hbl)
      have hxb : (bs[i].toNat : Int) < 256 := by have := UInt8.toNat_lt bs[i]; omega
      generalize bs[i].toNat = xb at *
      clear hb hcs hbl
      go_wp2
      go_roundw
      case rel => exact ⟨i + 1, _, by omega, by go_num, rfl, HB.out⟩
      case measure => simp [intOf] <;> omega
set_option maxRecDepth 100000 in
set_option maxHeartbeats 2000000 in
theorem l31New_c (A : Option Addr) (n c : Nat) (bs : List UInt8) (k : Nat) (w : World) (hA : Rd w 1 A n (u8s bs)) (hn : n ≤ 1048576) (hk : k ≤ 1000) :
    Calls Try.prog 113 #[.slice A n c, .int .i64 k] w fun e w' => ∃ b, e = .returned (.pointer (some ⟨b, 0, none⟩)) ∧ w.heap.size ≤ b ∧ CurOk w' b A n c bs ∧ Below w.heap.size w w' := by
  have h1 := Lib.hid (l01New_c A n c bs w hA hn)
  clear hA
  go_enter Try.func113, Try.ntmps113
  go_wp2_with fail
  refine h1.out.mono ?_
  rintro e w1 ⟨b, rfl, hbg, _, hc, hb⟩
  have HC := Lib.hid hc
  have HB := Lib.hid hb
  clear hc hb
  go_wp2_with fail
  go_loopw [6] (fun z wr => ∃ i : Nat, i ≤ k ∧ z = .int .i64 i ∧ CurOk wr b A n c bs ∧ Below w.heap.size w wr) (fun z _ => k - (intOf z).toNat)
  case atStart => exact ⟨0, by omega, rfl, HC.out, HB.out⟩
  case round =>
    obtain ⟨i, hi, rfl, hc, hb⟩ := hrel
    have H2 := Lib.hid (l01Byte_c b A n c bs wr hc hn)
    have HC2 := Lib.hid hc
    have HB2 := Lib.hid hb
    clear hc hb
    by_cases hlt : i < k
    case pos =>
      go_wp2_with fail
      refine H2.out.mono ?_
      rintro e w2 ⟨⟨v, rfl, _, _⟩, hs⟩
      have HS := Lib.hid hs
      clear hs
      go_wp2_with fail
      go_roundw
      case rel => exact ⟨i + 1, by omega, by go_num, HS.out.1, HS.out.2.1 _ _ hbg HB2.out⟩
      case measure => simp [intOf] <;> omega
    case neg =>
      go_wp2
      go_ret
      exact ⟨b, rfl, hbg, HC2.out, HB2.out⟩
/-- Whether all letters of a word are among the first k. -/
def M.among (k : Nat) (m : List UInt8) : Prop := ∀ x ∈ m, 97 ≤ x.toNat ∧ x.toNat < 97 + k
set_option maxRecDepth 100000 in
set_option maxHeartbeats 2000000 in
theorem l02Draw_c (b : Nat) (A : Option Addr) (n c : Nat) (bs : List UInt8) (k most : Nat) (w : World) (hc : CurOk w b A n c bs) (hn : n ≤ 1048576) (hk1 : 1 ≤ k) (hk2 : k ≤ 4) (hm : most ≤ 16) (hbw : b < w.heap.size) :
    Calls Try.prog 159 #[.pointer (some ⟨b, 0, none⟩), .int .i64 k, .int .i64 most] w fun e w' => (∃ m : List UInt8, e = .returned (.string ⟨m.toArray⟩) ∧ m.length ≤ most ∧ M.among k m) ∧ ∀ B w0, B ≤ b → Below B w0 w → Below B w0 w' := by
  have h1 := Lib.hid (l01Below_c b A n c bs ((most : Int) + 1) w hc hn (by omega) (by omega))
  clear hc
  go_enter Try.func159, Try.ntmps159
  go_wp2_with fail
  refine h1.out.mono ?_
  rintro e w1 ⟨⟨v, rfl, hv0, hv1⟩, hs⟩
  obtain ⟨N, rfl⟩ := Int.eq_ofNat_of_zero_le hv0
  have HS := Lib.hid hs
  clear hs
  go_wp2_with fail
  go_loopw [7, 8] (fun s z wr => ∃ (j : Nat) (m : List UInt8), j ≤ N ∧ z = .int .i64 j ∧ s = .string ⟨m.toArray⟩ ∧ m.length + j = N ∧ M.among k m ∧ CurOk wr b A n c bs ∧ (∀ B w0, B ≤ b → Below B w0 w → Below B w0 wr)) (fun _ z _ => (intOf z).toNat)
  case atStart => exact ⟨N, [], by omega, rfl, rfl, by simp, by intro x hx; simp at hx, HS.out.1, HS.out.2.1⟩
  case round =>
    obtain ⟨j, m, hj, rfl, rfl, hml, hma, hcw, hbl⟩ := hrel
    have H2 := Lib.hid (l01Below_c b A n c bs (k : Int) wr hcw hn (by omega) (by omega))
    have HM := Lib.hid hma
    have HBL := Lib.hid hbl
    clear hma hcw hbl
    by_cases hlt : 0 < j
    case neg =>
      go_wp2_with fail
      go_ret
      exact ⟨⟨m, rfl, by omega, HM.out⟩, HBL.out⟩
    case pos =>
      go_wp2_with fail
      refine H2.out.mono ?_
      rintro e w2 ⟨⟨u, rfl, hu0, hu1⟩, hs⟩
      obtain ⟨U, rfl⟩ := Int.eq_ofNat_of_zero_le hu0
      have hcv := oneByte w2 (97 + (U : Int)) (by omega) (by omega)
      obtain ⟨x, hx⟩ : ∃ x : UInt8, x = UInt8.ofNat (97 + (U : Int)).toNat := ⟨_, rfl⟩
      rw [← hx] at hcv
      have HX := Lib.hid (show x.toNat = 97 + U by rw [hx, UInt8.toNat_ofNat']; omega)
      have HS2 := Lib.hid hs
      clear hs hx
      go_wp2_with fail
      go_roundw
      case rel => exact ⟨j - 1, m ++ [x], by omega, by go_num, by simp, by simp; omega, fun y hy => by
        rcases List.mem_append.1 hy with h | h
        · exact HM.out y h
        · simp at h; subst h; have := HX.out; omega, HS2.out.1.below ((Below.refl _ _).alloc (Nat.le_refl _) _), fun B w0 hB hb => (HS2.out.2.1 B w0 hB (HBL.out B w0 hB hb)).alloc (Nat.le_trans hB (by obtain ⟨i, h1, _⟩ := HS2.out.1.c1; exact Nat.le_of_lt (World.block_lt_of_cell? w2 _ h1))) _⟩
      case measure => simp [intOf] <;> omega

end Go.Proofs.Ytlohpphmamapeaa
/-
  Contracts of SplitAny.
  Conditions: lengths of at most 2^20.
-/
namespace Go.Proofs.Ytlohpphmamapeaa
open Go.RowKit
set_option linter.unusedVariables false


set_option maxRecDepth 100000 in
set_option maxHeartbeats 2000000 in
theorem spec_SplitAny_c (l p : List UInt8) (w : World) (hl : l.length ≤ 1048576) (hp : p.length ≤ 1048576) :
    Calls Try.prog 177 #[.string ⟨l.toArray⟩, .string ⟨p.toArray⟩] w (RetRow 9 1 (M.SplitAny l p).length (strs (M.SplitAny l p)) w) := by
  go_enter Try.func177, Try.ntmps177
  go_wp2
  go_loopw [5, 6, 7] (fun s f i wr => ∃ (k : Nat) (A : Option Addr) (n c g : Nat), k ≤ l.length ∧ i = .int .i64 k ∧ f = .int .i64 g ∧ s = .slice A n c ∧ g ≤ k ∧ n ≤ k ∧ n = (M.splitTo l p k).1.length ∧ g = (M.splitTo l p k).2 ∧ wr.ownsRow w.heap.size 9 1 (.slice A n c) n (strs (M.splitTo l p k).1) ∧ Below w.heap.size w wr) (fun _ _ i _ => l.length - (intOf i).toNat)
  case atStart => exact ⟨0, _, 0, 0, 0, by omega, rfl, rfl, rfl, by omega, by omega, rfl, rfl, World.ownsRow_lit w #[] 0 (Nat.le_refl _) (by simp [maxLen]) (by simp), (Below.refl _ _).alloc (Nat.le_refl _) _⟩
  case round =>
    obtain ⟨k, A, n, c, g, hk, rfl, rfl, rfl, hgk, hnk, hn, hg, hown, hb⟩ := hrel
    have HN := Lib.hid hn
    have HG := Lib.hid hg
    have HO := Lib.hid hown
    have HB := Lib.hid hb
    clear hn hg hown hb
    by_cases hlt : k < l.length
    · obtain ⟨wo, hwo⟩ : ∃ wo : World, wo = wr := ⟨_, rfl⟩
      rw [← hwo] at HO HB ⊢
      clear hwo
      go_wp2
      go_loopw [5, 6, 8] (fun s f i wr => s = .slice A n c ∧ f = .int .i64 g ∧ (∃ j : Nat, j ≤ p.length ∧ i = .int .i64 j ∧ (p.take j).contains l[k] = false) ∧ ∃ m, wr = wo.drewN m) (fun _ _ i _ => p.length - (intOf i).toNat)
      case atStart => exact ⟨rfl, rfl, ⟨0, by omega, rfl, by simp⟩, 0, rfl⟩
      case round =>
        obtain ⟨rfl, rfl, ⟨j, hj, rfl, hc⟩, m, rfl⟩ := hrel
        have HC := Lib.hid hc
        clear hc
        by_cases hjl : j < p.length
        · by_cases he : l[k] = p[j]
          · have hcc : p.contains l[k] = true := by rw [he]; simp
            have HS := Lib.hid (M.splitTo_yes hlt hcc)
            rw [← HG.out] at HS
            have he' : (l[k].toNat : Int) = (p[j].toNat : Int) := by rw [he]
            clear he hcc
            go_wp2
            go_quiet (fail)
            go_wp2_with (at_builtin; refine push_law_drew rfl _ _ rfl slString rfl HO.out (us := [.string ⟨((l.drop g).take (k - g)).toArray⟩]) rfl rfl (by simp [Value.oneCell']) HB.out rfl (by omega) ?_; intro A' c' w' hown' hb')
            go_roundw
            case rel => exact ⟨k + 1, A', n + 1, c', k + 1, by omega, by go_num, by go_num, rfl, by omega, by omega, by rw [HS.out, HN.out]; simp, by rw [HS.out], by rw [HS.out, strs_add]; exact hown', hb'⟩
            case measure => simp [intOf]; omega
          · have hne : ¬ (l[k].toNat : Int) = (p[j].toNat : Int) := fun e => he (UInt8.toNat_inj.1 (by omega))
            have HT := Lib.hid (show (p.take (j + 1)).contains l[k] = false by rw [List.take_succ_eq_append_getElem hjl, List.contains_append, HC.out]; simp [he])
            clear he
            go_wp2
            go_quiet (fail)
            go_wp2
            go_roundw
            case rel => exact ⟨rfl, rfl, ⟨j + 1, by omega, by go_num, HT.out⟩, _, rfl⟩
            case measure => simp [intOf]; omega
        · have hcc : p.contains l[k] = false := by have := HC.out; rwa [List.take_of_length_le (by omega)] at this
          have HS := Lib.hid (M.splitTo_no hlt hcc)
          clear hcc
          go_wp2
          go_roundw
          case rel => exact ⟨k + 1, A, n, c, g, by omega, by go_num, rfl, rfl, by omega, by omega, by rw [HS.out, HN.out], by rw [HS.out, HG.out], by rw [HS.out]; exact HO.out, below_drewN HB.out _⟩
          case measure => simp [intOf]; omega
    · obtain rfl : k = l.length := by omega
      go_wp2_with (at_builtin; refine push_law rfl _ _ rfl slString rfl HO.out (us := [.string ⟨(l.drop g).toArray⟩]) rfl rfl (by simp [Value.oneCell']) HB.out rfl (by omega) ?_; intro A' c' w' hown' hb')
      go_ret
      exact ⟨A', c', by unfold M.SplitAny; rw [← HG.out, List.length_append, ← HN.out]; rfl, by unfold M.SplitAny; rw [← HG.out, List.length_append, ← HN.out, strs_add]; exact hown', hb'⟩

end Go.Proofs.Ytlohpphmamapeaa
/-
  Contracts of ParseRule.
  Conditions: texts of at most 2^20 bytes.
-/
namespace Go.Proofs.Ytlohpphmamapeaa
open Go.RowKit
set_option linter.unusedVariables false
set_option linter.unusedSimpArgs false

theorem indexByte_at {a b : List UInt8} {c : UInt8} (h : c ∉ a) : Lib.indexByte (a ++ c :: b) c = (a.length : Int) := by
  induction a with
  | nil => simp [Lib.indexByte]
  | cons x r ih =>
    have hx : ¬ x = c := fun e => h (by simp [e])
    have ih := ih (fun e => h (by simp [e]))
    rw [List.cons_append]
    simp only [Lib.indexByte]
    rw [ih]
    simp [hx] <;> omega
theorem indexByte_no {s : List UInt8} {c : UInt8} (h : c ∉ s) : Lib.indexByte s c = -1 := by
  induction s with
  | nil => rfl
  | cons x r ih =>
    have hx : ¬ x = c := fun e => h (by simp [e])
    have ih := ih (fun e => h (by simp [e]))
    simp only [Lib.indexByte]
    rw [ih]
    simp [hx]
theorem cut_at {a b : List UInt8} {c : UInt8} (h : c ∉ a) : Lib.cut (a ++ c :: b) [c] = (a, b, true) := by
  unfold Lib.cut
  rw [Lib.index_one, indexByte_at h, if_pos (by omega)]
  simp
theorem cut_no {s : List UInt8} {c : UInt8} (h : c ∉ s) : Lib.cut s [c] = (s, [], false) := by
  unfold Lib.cut
  rw [Lib.index_one, indexByte_no h, if_neg (by omega)]
theorem splitTo_no {s : List UInt8} {c : UInt8} : ∀ k, k ≤ s.length → (∀ i, i < k → s[i]? ≠ some c) → M.splitTo s [c] k = ([], 0)
  | 0, _, _ => rfl
  | k + 1, hk, h => by
    have hlt : k < s.length := by omega
    rw [M.splitTo_no hlt (by
      have := h k (by omega)
      rw [List.getElem?_eq_getElem hlt] at this
      simp only [List.contains_cons, List.contains_nil, Bool.or_false, beq_eq_false_iff_ne]
      exact fun e => this (by rw [e]))]
    exact splitTo_no k (by omega) fun i hi => h i (by omega)
theorem split_none {s : List UInt8} {c : UInt8} (h : c ∉ s) : M.SplitAny s [c] = [s] := by
  unfold M.SplitAny
  rw [splitTo_no s.length (Nat.le_refl _) fun i hi e => h (List.mem_of_getElem? e)]
  simp
theorem splitTo_at {a b : List UInt8} {c : UInt8} (h : c ∉ a) : ∀ j, j ≤ b.length → M.splitTo (a ++ c :: b) [c] (a.length + 1 + j) = (a :: (M.splitTo b [c] j).1, a.length + 1 + (M.splitTo b [c] j).2)
  | 0, _ => by
    have hlt : a.length < (a ++ c :: b).length := by simp
    have hat : (a ++ c :: b)[a.length] = c := by simp
    rw [Nat.add_zero, M.splitTo_yes hlt (by rw [hat]; simp), splitTo_no a.length (by omega) (fun i hi e => by
      rw [List.getElem?_append_left hi] at e
      exact h (List.mem_of_getElem? e))]
    simp [M.splitTo]
  | j + 1, hj => by
    have ih := splitTo_at (b := b) h j (by omega)
    have hlt : a.length + 1 + j < (a ++ c :: b).length := by simp; omega
    have hb : j < b.length := by omega
    have hat : (a ++ c :: b)[a.length + 1 + j] = b[j] := by
      rw [List.getElem_append_right (by omega)]
      simp only [show a.length + 1 + j - a.length = j + 1 by omega, List.getElem_cons_succ]
    rw [← Nat.add_assoc]
    have hle := (M.splitTo_le b [c] j).1
    by_cases hc : [c].contains b[j] = true
    · rw [M.splitTo_yes hlt (by rw [hat]; exact hc), M.splitTo_yes hb hc, ih]
      simp only [List.cons_append]
      rw [Prod.mk.injEq]
      refine ⟨?_, by omega⟩
      congr 3
      rw [show a.length + 1 + j - (a.length + 1 + (M.splitTo b [c] j).2) = j - (M.splitTo b [c] j).2 by omega]
      congr 1
      rw [show a.length + 1 + (M.splitTo b [c] j).2 = (a ++ [c]).length + (M.splitTo b [c] j).2 by simp, show a ++ c :: b = (a ++ [c]) ++ b by simp, List.drop_append]
      simp
    · have hc' : [c].contains b[j] = false := by simpa using hc
      rw [M.splitTo_no hlt (by rw [hat]; exact hc'), M.splitTo_no hb hc', ih]
theorem split_at {a b : List UInt8} {c : UInt8} (h : c ∉ a) : M.SplitAny (a ++ c :: b) [c] = a :: M.SplitAny b [c] := by
  have hl : (a ++ c :: b).length = a.length + 1 + b.length := by simp; omega
  unfold M.SplitAny
  rw [hl, splitTo_at h b.length (Nat.le_refl _)]
  simp only [List.cons_append]
  congr 2
  rw [show a.length + 1 + (M.splitTo b [c] b.length).2 = (a ++ [c]).length + (M.splitTo b [c] b.length).2 by simp, show a ++ c :: b = (a ++ [c]) ++ b by simp, List.drop_append]
  simp

theorem splitTo_mem {s by_ : List UInt8} : ∀ k, ∀ z ∈ (M.splitTo s by_ k).1, z.length ≤ s.length
  | 0, z, h => by simp [M.splitTo] at h
  | k + 1, z, h => by
    rw [M.splitTo] at h
    split at h
    · rcases List.mem_append.1 h with h | h
      · exact splitTo_mem k z h
      · simp at h
        subst h
        simp
        omega
    · exact splitTo_mem k z h
theorem split_mem {s by_ z : List UInt8} (h : z ∈ M.SplitAny s by_) : z.length ≤ s.length := by
  unfold M.SplitAny at h
  rcases List.mem_append.1 h with h | h
  · exact splitTo_mem _ z h
  · simp at h
    subst h
    simp
def M.undot (l : List UInt8) : List UInt8 := if l = [46] then [] else l
def M.ruleOf (a b s : List UInt8) : M.Rule × Bool := if M.WordOk 4 a = true ∧ M.WordOk 4 b = true ∧ M.FormatRule ⟨a, b⟩ = s then (⟨a, b⟩, true) else (⟨[], []⟩, false)
def M.ParseRule (s : List UInt8) : M.Rule × Bool := M.ruleOf (M.undot (Lib.cut s [62]).1) (M.undot (Lib.cut s [62]).2.1) s
theorem word_no62 {l : List UInt8} (h : M.WordOk 4 l = true) : (62 : UInt8) ∉ l := by
  intro hm
  unfold M.WordOk at h
  have h1 := (Bool.and_eq_true_iff.1 (Bool.and_eq_true_iff.1 h).2).2
  unfold M.hasLetters at h1
  rw [List.all_eq_true] at h1
  have := h1 62 hm
  rw [M.isLetter_false (by decide)] at this
  cases this
theorem undot_mem {l : List UInt8} (h : (62 : UInt8) ∈ l) : (62 : UInt8) ∈ M.undot l := by
  unfold M.undot
  split
  · rename_i e; subst e; simp at h
  · exact h
theorem undot_len (l : List UInt8) : (M.undot l).length ≤ l.length := by unfold M.undot; split <;> simp
/-- Where the text does not split in two, it is no rule. -/
theorem parse_no {s : List UInt8} (h : (M.SplitAny s [62]).length ≠ 2) : M.ParseRule s = (⟨[], []⟩, false) := by
  unfold M.ParseRule M.ruleOf
  rw [if_neg]
  rintro ⟨h1, h2, h3⟩
  by_cases hm : (62 : UInt8) ∈ s
  · obtain ⟨a, b, rfl, ha⟩ := List.eq_append_cons_of_mem hm
    rw [cut_at ha] at h2
    rw [split_at ha] at h
    by_cases hb : (62 : UInt8) ∈ b
    · exact word_no62 h2 (undot_mem hb)
    · rw [split_none hb] at h
      simp at h
  · have : (62 : UInt8) ∈ s := by rw [← h3]; simp [M.FormatRule]
    exact hm this
theorem parse_two {s a b : List UInt8} (h : M.SplitAny s [62] = [a, b]) : M.ParseRule s = M.ruleOf (M.undot a) (M.undot b) s := by
  by_cases hm : (62 : UInt8) ∈ s
  · obtain ⟨a', b', rfl, ha⟩ := List.eq_append_cons_of_mem hm
    rw [split_at ha] at h
    injection h with h1 h2
    subst h1
    by_cases hb : (62 : UInt8) ∈ b'
    · obtain ⟨a2, b2, rfl, ha2⟩ := List.eq_append_cons_of_mem hb
      rw [split_at ha2] at h2
      injection h2 with h2 h3
      unfold M.SplitAny at h3
      simp at h3
    · rw [split_none hb] at h2
      injection h2 with h2
      subst h2
      unfold M.ParseRule
      rw [cut_at ha]
  · rw [split_none hm] at h
    simp at h

theorem frozenKeep' {w w' : World} {b o : Nat} {u : Value} {f : Bool} (hb : Below w.heap.size w w') (hc : w.cell? ⟨b, o, none⟩ = some u) (h : w.frozen? ⟨b, o, none⟩ = f) : w'.frozen? ⟨b, o, none⟩ = f :=
  ((bcell hb).2 _ _ (World.block_lt_of_cell? w _ hc)).trans h

def M.undots (zs : List (List UInt8)) (k : Nat) : List (List UInt8) := (zs.take k).map M.undot ++ zs.drop k
theorem undots_len (zs : List (List UInt8)) (k : Nat) : (M.undots zs k).length = zs.length := by unfold M.undots; simp; omega
theorem undots_at {zs : List (List UInt8)} {k : Nat} (h : k < zs.length) : (M.undots zs k)[k]? = some zs[k] := by
  unfold M.undots
  rw [List.getElem?_append_right (by simp; omega)]
  simp [Nat.min_eq_left (Nat.le_of_lt h), h]
theorem undots_set {zs : List (List UInt8)} {k : Nat} (h : k < zs.length) : (M.undots zs k).set k (M.undot zs[k]) = M.undots zs (k + 1) := by
  unfold M.undots
  rw [List.drop_eq_getElem_cons h, set_here _ _ _ _ (by simp; omega), List.take_succ_eq_append_getElem h, List.map_append, List.append_assoc]
  rfl
theorem strs_set (ls : List (List UInt8)) (k : Nat) (v : List UInt8) : (strs ls).set k (.string ⟨v.toArray⟩) = strs (ls.set k v) := by simp [strs, List.map_set]
set_option maxRecDepth 100000 in
set_option maxHeartbeats 4000000 in
theorem spec_ParseRule_c (l : List UInt8) (w : World) (hl : l.length ≤ 1048576) :
    Calls Try.prog 179 #[.string ⟨l.toArray⟩] w fun e w' => e = .returned (.tuple #[.agg #[.string ⟨(M.ParseRule l).1.left.toArray⟩, .string ⟨(M.ParseRule l).1.right.toArray⟩], .bool (M.ParseRule l).2]) ∧ Below w.heap.size w w' := by
  have h1 := Lib.hid (fun W => spec_SplitAny_c l [62] W hl (by simp))
  have hzl := M.SplitAny_len l [62]
  have HPN := Lib.hid (fun h => parse_no (s := l) h)
  have HPT := Lib.hid (fun a b h => parse_two (s := l) (a := a) (b := b) h)
  have HSZ := Lib.hid (fun z (h : z ∈ M.SplitAny l [62]) => split_mem h)
  obtain ⟨res, hres⟩ : ∃ res, res = M.ParseRule l := ⟨_, rfl⟩
  rw [← hres] at HPN HPT ⊢
  generalize M.SplitAny l [62] = zs at *
  obtain ⟨n, hn⟩ : ∃ n, n = zs.length := ⟨_, rfl⟩
  have HN := Lib.hid hn
  rw [← hn] at h1 HPN hzl
  clear hres hn
  by_cases h2 : n = 2
  case neg =>
    have HE := Lib.hid (HPN.out h2)
    have h2' : ((n : Int) == 2) = false := by rw [beq_eq_false_iff_ne]; omega
    clear h2 HPT HPN HSZ
    go_enter Try.func179, Try.ntmps179
    go_wp2_with fail
    refine (h1.out _).mono ?_
    rintro e w1 ⟨A1, c1, rfl, hown, hb⟩
    have d0 : w1.cell? ⟨w.heap.size, 0, none⟩ = some (.string ⟨#[]⟩) := cellKeep hb (by simp [go_sem])
    have d1 : w1.cell? ⟨w.heap.size, 1, none⟩ = some (.string ⟨#[]⟩) := cellKeep hb (by simp [go_sem])
    have f0 : w1.frozen? ⟨w.heap.size, 0, none⟩ = false := ((bcell hb).2 _ _ (by simp)).trans (by simp [go_sem])
    have f1 : w1.frozen? ⟨w.heap.size, 1, none⟩ = false := ((bcell hb).2 _ _ (by simp)).trans (by simp [go_sem])
    have HB := Lib.hid (below_alloc1 hb)
    clear hb hown
    go_wp2_with fail
    refine bodyPost_ret (v := .tuple #[.agg #[.string ⟨#[]⟩, .string ⟨#[]⟩], .bool false]) ?_ rfl ⟨by rw [HE.out], ?_⟩
    · simp [results, Try.results179, go_sem, cell_set_ne, cell_set_eq _ d0, cell_two' d1]
    · exact ((HB.out).setCell (by simp <;> omega) _).setCell (by simp <;> omega) _
  case pos =>
  obtain ⟨p, q, hpq⟩ : ∃ p q, zs = [p, q] := by
    have h3 := HN.out
    match zs, h3 with
    | [p, q], _ => exact ⟨p, q, rfl⟩
    | [], h3 => simp at h3; omega
    | [_], h3 => simp at h3; omega
    | _ :: _ :: _ :: _, h3 => simp at h3; omega
  have HE0 := Lib.hid (HPT.out p q hpq)
  have hpl := HSZ.out p (by rw [hpq]; simp)
  have hql := HSZ.out q (by rw [hpq]; simp)
  have HPQ := Lib.hid hpq
  have HU := Lib.hid (show M.undots zs n = [M.undot p, M.undot q] by rw [h2, hpq]; rfl)
  have hal := Nat.le_trans (undot_len p) hpl
  have hbl := Nat.le_trans (undot_len q) hql
  clear hpq HPT HPN HSZ hzl
  go_enter Try.func179, Try.ntmps179
  have h2' : ((n : Int) == 2) = true := by rw [beq_iff_eq]; omega
  go_wp2_with fail
  refine (h1.out _).mono ?_
  rintro e w1 ⟨A1, c1, rfl, hown, hb⟩
  have D0 := Lib.hid (show w1.cell? ⟨w.heap.size, 0, none⟩ = some (.string ⟨#[]⟩) from cellKeep hb (by simp [go_sem]))
  have D1 := Lib.hid (show w1.cell? ⟨w.heap.size, 1, none⟩ = some (.string ⟨#[]⟩) from cellKeep hb (by simp [go_sem]))
  have F0 := Lib.hid (show w1.frozen? ⟨w.heap.size, 0, none⟩ = false from ((bcell hb).2 _ _ (by simp)).trans (by simp [go_sem]))
  have F1 := Lib.hid (show w1.frozen? ⟨w.heap.size, 1, none⟩ = false from ((bcell hb).2 _ _ (by simp)).trans (by simp [go_sem]))
  have HB0 := Lib.hid (below_alloc1 hb)
  have HS0 := Lib.hid (show w.heap.size + 1 ≤ w1.heap.size by have h := hb.size; (try simp at h); omega)
  have HO0 := Lib.hid ((Own.of_row hown).mono (base' := w.heap.size + 1) (by simp))
  clear hb hown
  go_wp2_with fail
  go_loopw [16] (fun z wr => ∃ k : Nat, k ≤ n ∧ z = .int .i64 k ∧ Own wr (w.heap.size + 1) 1 A1 n (strs (M.undots zs k)) ∧ (wr.cell? ⟨w.heap.size, 0, none⟩ = some (.string ⟨#[]⟩) ∧ wr.cell? ⟨w.heap.size, 1, none⟩ = some (.string ⟨#[]⟩) ∧ wr.frozen? ⟨w.heap.size, 0, none⟩ = false ∧ wr.frozen? ⟨w.heap.size, 1, none⟩ = false) ∧ Below w.heap.size w wr ∧ w.heap.size + 1 ≤ wr.heap.size) (fun z _ => n - (intOf z).toNat)
  case atStart => exact ⟨0, by omega, rfl, by have h := HO0.out; simpa [M.undots] using h, ⟨D0.out, D1.out, F0.out, F1.out⟩, HB0.out, HS0.out⟩
  case round =>
    obtain ⟨k, hk, rfl, hown, ⟨d0, d1, f0, f1⟩, hb, hsz⟩ := hrel
    have HB := Lib.hid hb
    by_cases hlt : k < n
    case pos =>
      obtain ⟨g, o, hA, hbg, hgl, hc, hf, hst⟩ := hown.cells (by omega)
      have hkz : k < zs.length := by have := HN.out; omega
      have hc1 := hc k _ (by rw [strs, List.getElem?_map, undots_at hkz]; rfl)
      have hf1 := hf k
      by_cases he : zs[k] = [46]
      case pos =>
        have HS := Lib.hid (show (strs (M.undots zs k)).set k (.string ⟨#[]⟩) = strs (M.undots zs (k + 1)) by
          rw [← undots_set hkz, he]; exact strs_set _ k [])
        have HO := Lib.hid (hst k (.string ⟨#[]⟩)).1
        have HD0 := Lib.hid d0
        have HD1 := Lib.hid d1
        have HF0 := Lib.hid f0
        have HF1 := Lib.hid f1
        have hgw : w.heap.size + 1 ≤ g := hbg
        rw [he] at hc1
        clear hc hf hst hown hb hgl d0 d1 f0 f1 he
        subst hA
        go_wp2_with fail
        go_roundw
        case rel => exact ⟨k + 1, by omega, by go_num, by rw [← HS.out]; exact HO.out, ⟨(cell_set_ne _ (by omega)).trans HD0.out, (cell_set_ne _ (by omega)).trans HD1.out, by simpa using HF0.out, by simpa using HF1.out⟩, HB.out.setCell (by simp; omega) _, by simp; omega⟩
        case measure => simp [intOf] <;> omega
      case neg =>
        have hu : M.undot zs[k] = zs[k] := if_neg he
        have HS := Lib.hid (show M.undots zs (k + 1) = M.undots zs k by
          rw [← undots_set hkz, hu]
          apply List.ext_getElem?
          intro j
          by_cases hj : j = k
          · subst hj
            rw [List.getElem?_set_self (by rw [undots_len]; exact hkz), undots_at hkz]
          · rw [List.getElem?_set_ne (by omega)])
        have he' : (zs[k] == [46]) = false := by simpa using he
        have HO := Lib.hid hown
        generalize zs[k] = e at *
        clear hc hf hst hown hb hgl he hu
        subst hA
        go_wp2_with fail
        go_roundw
        case rel => exact ⟨k + 1, by omega, by go_num, by rw [HS.out]; exact HO.out, ⟨d0, d1, f0, f1⟩, HB.out, hsz⟩
        case measure => simp [intOf] <;> omega
    case neg =>
      have hkn : k = n := by omega
      rw [hkn, HU.out] at hown
      obtain ⟨g, o, hA, hbg, hgl, hc, hf, hst⟩ := hown.cells (by omega)
      obtain ⟨a, ha⟩ : ∃ a, a = M.undot p := ⟨_, rfl⟩
      obtain ⟨b, hbb⟩ : ∃ b, b = M.undot q := ⟨_, rfl⟩
      rw [← ha, ← hbb] at hc HE0
      rw [← ha] at hal
      rw [← hbb] at hbl
      have c0 : wr.cell? ⟨g, o, none⟩ = some (.string ⟨a.toArray⟩) := by simpa using hc 0 _ rfl
      have c1' : wr.cell? ⟨g, o + 1, none⟩ = some (.string ⟨b.toArray⟩) := hc 1 _ rfl
      have h5 := Lib.hid (fun W => spec_WordOk_c 4 a W (by omega))
      have h6 := Lib.hid (fun W => spec_WordOk_c 4 b W (by omega))
      have h7 := Lib.hid (fun W => spec_FormatRule_c a b W (by omega) (by omega))
      unfold M.ruleOf at HE0
      generalize M.WordOk 4 a = x at *
      generalize M.WordOk 4 b = y at *
      generalize M.FormatRule ⟨a, b⟩ = f at *
      have HNO := Lib.hid (fun h => HE0.out.trans (if_neg h))
      have HYES := Lib.hid (fun h => HE0.out.trans (if_pos h))
      have hn2 : n = 2 := h2
      clear hc hf hst hown hb ha hbb HE0 HU
      subst hA
      subst hn2
      go_wp2_with fail
      go_region
      obtain ⟨v0, hv0⟩ : ∃ v0 : World, v0 = (wr.alloc (.cells #[.string ⟨a.toArray⟩, .string ⟨b.toArray⟩] 84)).drew := ⟨_, rfl⟩
      rw [← hv0]
      have HAL := (Below.refl wr.heap.size wr).alloc (Nat.le_refl _) (.cells #[.string ⟨a.toArray⟩, .string ⟨b.toArray⟩] 84)
      have x0 : v0.cell? ⟨wr.heap.size, 0, none⟩ = some (.string ⟨a.toArray⟩) := by rw [hv0]; simp [go_sem]
      have x1 : v0.cell? ⟨wr.heap.size, 1, none⟩ = some (.string ⟨b.toArray⟩) := by rw [hv0]; simp [go_sem]
      replace f0 : v0.frozen? ⟨w.heap.size, 0, none⟩ = false := by rw [hv0]; exact frozenKeep' HAL.drew d0 f0
      replace f1 : v0.frozen? ⟨w.heap.size, 1, none⟩ = false := by rw [hv0]; exact frozenKeep' HAL.drew d1 f1
      replace d0 : v0.cell? ⟨w.heap.size, 0, none⟩ = some (.string ⟨#[]⟩) := by rw [hv0]; exact cellKeep HAL.drew d0
      replace d1 : v0.cell? ⟨w.heap.size, 1, none⟩ = some (.string ⟨#[]⟩) := by rw [hv0]; exact cellKeep HAL.drew d1
      replace HB := Lib.hid (show Below w.heap.size w v0 by rw [hv0]; exact (HB.out.trans (HAL.mono HB.out.size)).drew)
      clear hv0 HAL c0 c1'
      cases x
      case false =>
        have HE := Lib.hid (HNO.out (fun h => absurd h.1 (by simp)))
        go_wp2_with fail
        refine (h5.out _).mono ?_
        rintro e v1 ⟨rfl, rfl⟩
        go_wp2_with fail
        refine bodyPost_ret (v := .tuple #[.agg #[.string ⟨#[]⟩, .string ⟨#[]⟩], .bool false]) ?_ rfl ⟨by rw [HE.out], ?_⟩
        · simp [results, Try.results179, go_sem, cell_set_ne, cell_set_eq _ d0, cell_two' d1]
        · exact ((HB.out).setCell (by simp <;> omega) _).setCell (by simp <;> omega) _
      case true =>
      cases y
      case false =>
        have HE := Lib.hid (HNO.out (fun h => absurd h.2.1 (by simp)))
        go_wp2_with fail
        refine (h5.out _).mono ?_
        rintro e v1 ⟨rfl, rfl⟩
        go_wp2_with fail
        refine (h6.out _).mono ?_
        rintro e v1 ⟨rfl, rfl⟩
        go_wp2_with fail
        refine bodyPost_ret (v := .tuple #[.agg #[.string ⟨#[]⟩, .string ⟨#[]⟩], .bool false]) ?_ rfl ⟨by rw [HE.out], ?_⟩
        · simp [results, Try.results179, go_sem, cell_set_ne, cell_set_eq _ d0, cell_two' d1]
        · exact ((HB.out).setCell (by simp <;> omega) _).setCell (by simp <;> omega) _
      case true =>
      by_cases hf : f = l
      case neg =>
        have HE := Lib.hid (HNO.out (fun h => hf h.2.2))
        have hf' : (f == l) = false := by simpa using hf
        clear hf
        go_wp2_with fail
        refine (h5.out _).mono ?_
        rintro e v1 ⟨rfl, rfl⟩
        go_wp2_with fail
        refine (h6.out _).mono ?_
        rintro e v1 ⟨rfl, rfl⟩
        go_wp2_with fail
        refine (h7.out _).mono ?_
        rintro e v1 ⟨rfl, hb1⟩
        replace f0 := frozenKeep' hb1 d0 f0
        replace f1 := frozenKeep' hb1 d1 f1
        replace d0 := cellKeep hb1 d0
        replace d1 := cellKeep hb1 d1
        replace x0 := cellKeep hb1 x0
        replace x1 := cellKeep hb1 x1
        have HB1 := Lib.hid (HB.out.trans (hb1.mono HB.out.size))
        clear hb1
        go_wp2_with fail
        refine bodyPost_ret (v := .tuple #[.agg #[.string ⟨#[]⟩, .string ⟨#[]⟩], .bool false]) ?_ rfl ⟨by rw [HE.out], ?_⟩
        · simp [results, Try.results179, go_sem, cell_set_ne, cell_set_eq _ d0, cell_two' d1]
        · exact ((HB1.out).setCell (by simp <;> omega) _).setCell (by simp <;> omega) _
      case pos =>
        have HE := Lib.hid (HYES.out ⟨rfl, rfl, hf⟩)
        subst hf
        go_wp2_with fail
        refine (h5.out _).mono ?_
        rintro e v1 ⟨rfl, rfl⟩
        go_wp2_with fail
        refine (h6.out _).mono ?_
        rintro e v1 ⟨rfl, rfl⟩
        go_wp2_with fail
        refine (h7.out _).mono ?_
        rintro e v1 ⟨rfl, hb1⟩
        replace f0 := frozenKeep' hb1 d0 f0
        replace f1 := frozenKeep' hb1 d1 f1
        replace d0 := cellKeep hb1 d0
        replace d1 := cellKeep hb1 d1
        replace x0 := cellKeep hb1 x0
        replace x1 := cellKeep hb1 x1
        have HB1 := Lib.hid (HB.out.trans (hb1.mono HB.out.size))
        clear hb1
        go_wp2_with fail
        refine bodyPost_ret (v := .tuple #[.agg #[.string ⟨a.toArray⟩, .string ⟨b.toArray⟩], .bool true]) ?_ rfl ⟨by rw [HE.out], ?_⟩
        · simp [results, Try.results179, go_sem, cell_set_ne, cell_set_eq _ d0, cell_two' d1]
        · exact ((HB1.out).setCell (by simp <;> omega) _).setCell (by simp <;> omega) _

end Go.Proofs.Ytlohpphmamapeaa
/-
  Contracts of Join; the laws' helpers on slices of strings; openers.
  Conditions: at most 2^20 strings of together at most 2^20 bytes.
-/
namespace Go.Proofs.Ytlohpphmamapeaa
open Go.ChangeShapes Go.WideShapes Go.ChangeAt Go.RowKit Go.Joins Go.Deep
set_option linter.unusedVariables false

def str1 (z : List UInt8) : List Value := [.string ⟨z.toArray⟩]
theorem strs_flat : ∀ zs : List (List UInt8), zs.flatMap str1 = strs zs
  | [] => rfl
  | z :: zs => by rw [List.flatMap_cons, strs_flat zs]; rfl
theorem partS {rs : List (List UInt8)} {zs : List Value} {k : Nat} (hk : k < rs.length) (hz : zs.length = rs.length) : (part str1 rs zs 1 k).set k (.string ⟨rs[k].toArray⟩) = part str1 rs zs 1 (k + 1) := by
  have hl := part_len (f := str1) (s := 1) (fun _ => rfl) rs k
  rw [Nat.min_eq_left (by omega), Nat.mul_one] at hl
  unfold part
  rw [Nat.mul_one, List.drop_eq_getElem_cons (l := zs) (i := k) (by omega), set_here _ _ _ _ hl.symm, List.take_succ_eq_append_getElem hk, List.flatMap_append, Nat.mul_one]
  simp [str1]
theorem lens_le {ls : List (List UInt8)} {l : List UInt8} (h : l ∈ ls) : l.length ≤ Lib.lens ls := by
  induction ls with
  | nil => simp at h
  | cons x r ih =>
    have e : Lib.lens (x :: r) = x.length + Lib.lens r := by simp [Lib.lens]
    rcases List.mem_cons.1 h with h | h
    · subst h; omega
    · have := ih h; omega
theorem join_succ {ls : List (List UInt8)} {sep : List UInt8} {k : Nat} (h : k < ls.length) : Lib.join (ls.take (k + 1)) sep = (if 0 < k then Lib.join (ls.take k) sep ++ sep else Lib.join (ls.take k) sep) ++ ls[k] := by
  cases ls with
  | nil => simp at h
  | cons x r =>
    cases k with
    | zero => simp [Lib.join_one, Lib.join_nil]
    | succ k =>
      have hk : k < r.length := by simpa using h
      rw [if_pos (by omega), List.take_succ_cons, Lib.join_cons, List.take_succ_cons, Lib.join_cons, Lib.joinTail_take_succ sep r k r[k] (List.getElem?_eq_getElem hk)]
      simp [List.append_assoc]
theorem join_len {ls : List (List UInt8)} {sep : List UInt8} : ∀ k, k ≤ ls.length → (Lib.join (ls.take k) sep).length ≤ Lib.lens ls + k * sep.length
  | 0, _ => by simp [Lib.join_nil]
  | k + 1, h => by
    have ih := join_len (ls := ls) (sep := sep) k (by omega)
    have key : ∀ k, k ≤ ls.length → (Lib.join (ls.take k) sep).length ≤ Lib.lens (ls.take k) + k * sep.length := by
      intro k
      induction k with
      | zero => intro _; simp [Lib.join_nil]
      | succ k ihk =>
        intro hk
        have h1 := ihk (by omega)
        have h2 := Lib.lens_take_succ ls k ls[k] (List.getElem?_eq_getElem (by omega))
        rw [join_succ (by omega), h2, Nat.add_mul]
        split <;> simp only [List.length_append] <;> omega
    have h3 := key (k + 1) h
    have h4 := Lib.lens_take_le ls (k + 1)
    omega
section
variable {H : Type} {enc : TypeId × Value → H} {w : World} {b0 : Nat} {held : Bool} {spare : Nat → Bool} {v : Value} {d : DataW H} {p : List MemPlace}
theorem Try.cellsStr : Try.prog.cellsOf 9 = 1 := by kernel_rfl
set_option maxRecDepth 100000 in
theorem openStringSlice {n : Nat} {v : Value} {y : DataW H × List MemPlace} (h : DataW.trod enc Try.prog w 0 spare held n 90 [v] = some y) :
    ∃ (A : Option Addr) (c : Nat) (zs : List (List UInt8)), v = .slice A zs.length c ∧ zs.length ≤ 9223372036854775807 ∧ Rd w 1 A zs.length (strs zs) ∧ ∀ z ∈ zs, z.length ≤ 9223372036854775807 := by
  obtain ⟨A, c, zs, e, h1, h2, h3⟩ := openElems str1 (fun z => z.length ≤ 9223372036854775807) (fun _ => rfl) (by decide) Try.underlying90 Try.cellsStr (fun m cs y hl hy => by
    match cs, hl with
    | [c0], _ =>
      obtain ⟨k, rfl, hk⟩ := openOneString hy
      exact ⟨k, rfl, hk⟩) h
  exact ⟨A, c, zs, e, h1, by rwa [strs_flat] at h2, h3⟩
set_option maxRecDepth 100000 in
theorem openStrings (hv : Value.okWide Try.prog w .any b0 90 v) (h : DataW.Trod enc Try.prog w 0 spare held 90 v d p) :
    ∃ (A : Option Addr) (c : Nat) (ls : List (List UInt8)), v = .slice A ls.length c ∧ (ls.length ≤ 9223372036854775807 ∧ Rd w 1 A ls.length (strs ls) ∧ ∀ l ∈ ls, l.length ≤ 9223372036854775807) := by
  obtain ⟨a0, len, cap, rfl⟩ := okWide_slice Try.underlying90 hv
  obtain ⟨fuel, hf⟩ := h
  obtain ⟨A, c, xs, e, h1, h2, h3⟩ := openStringSlice (v := .slice a0 len cap) (by simpa [Value.cells] using hf)
  exact ⟨A, c, xs, e, h1, h2, h3⟩
end

end Go.Proofs.Ytlohpphmamapeaa
/-
  Contracts of MakeNum and MakeText, and the plain law: the parts of a text joined again are the text.
  Conditions: at most 2^20 bytes.
-/
namespace Go.Proofs.Ytlohpphmamapeaa
open Go.RowKit
set_option linter.unusedVariables false
set_option linter.unusedSimpArgs false

/-- What SplitAny cuts at one byte, Join puts together again. -/
theorem join_split (c : UInt8) : ∀ (n : Nat) (s : List UInt8), s.length ≤ n → Lib.join (M.SplitAny s [c]) [c] = s
  | n, s, hn => by
    by_cases hc : c ∈ s
    · obtain ⟨a, b, rfl, ha⟩ := List.eq_append_cons_of_mem hc
      cases n with
      | zero => simp at hn
      | succ n =>
        have ih := join_split c n b (by simp at hn; omega)
        obtain ⟨y, r, hy⟩ : ∃ y r, M.SplitAny b [c] = y :: r := by
          cases hb : M.SplitAny b [c] with
          | nil => exact absurd (congrArg List.length hb) (by unfold M.SplitAny; simp)
          | cons y r => exact ⟨y, r, rfl⟩
        rw [split_at ha, Lib.join_cons, hy]
        rw [hy, Lib.join_cons] at ih
        simp only [Lib.joinTail, List.map_cons, List.flatten_cons] at ih ⊢
        rw [← ih]
        simp [List.append_assoc]
    · rw [split_none hc, Lib.join_one]
theorem split_lens (s : List UInt8) (c : UInt8) : Lib.lens (M.SplitAny s [c]) ≤ s.length := by
  have h := join_split c s.length s (Nat.le_refl _)
  have key : ∀ (ls : List (List UInt8)), Lib.lens ls ≤ (Lib.join ls [c]).length := by
    intro ls
    cases ls with
    | nil => simp [Lib.lens]
    | cons x r =>
      rw [Lib.join_cons]
      have e : Lib.lens (x :: r) = x.length + Lib.lens r := by simp [Lib.lens]
      have h2 : Lib.lens r ≤ (Lib.joinTail [c] r).length := by
        induction r with
        | nil => simp [Lib.lens]
        | cons y r ih =>
          have e2 : Lib.lens (y :: r) = y.length + Lib.lens r := by simp [Lib.lens]
          have e3 : Lib.joinTail [c] (y :: r) = [c] ++ y ++ Lib.joinTail [c] r := by simp [Lib.joinTail]
          have := ih (by simp [Lib.lens])
          rw [e2, e3, List.length_append, List.length_append]
          omega
      rw [e, List.length_append]
      omega
  have := key (M.SplitAny s [c])
  rw [h] at this
  exact this

set_option maxRecDepth 100000 in
set_option maxHeartbeats 2000000 in
theorem l01Str_c (b : Nat) (A : Option Addr) (n c : Nat) (bs : List UInt8) (g d : Nat) (ls : List (List UInt8)) (w : World) (hc : CurOk w b A n c bs) (hn : n ≤ 1048576) (hl : 1 ≤ ls.length ∧ ls.length ≤ 256) (hR : Rd w 1 (some ⟨g, 0, none⟩) ls.length (strs ls)) (hg : g ≠ b) :
    Calls Try.prog 157 #[.pointer (some ⟨b, 0, none⟩), .slice (some ⟨g, 0, none⟩) ls.length d] w fun e w' => (∃ l ∈ ls, e = .returned (.string ⟨l.toArray⟩)) ∧ CurStep b A n c bs w w' := by
  have h1 := Lib.hid (l01Below_c b A n c bs (ls.length : Int) w hc hn (by omega) (by omega))
  have HR := Lib.hid hR
  have hgl := hR.lt (by decide) (by omega) rfl
  clear hc hR
  go_enter Try.func157, Try.ntmps157
  go_wp2_with fail
  refine h1.out.mono ?_
  rintro e w1 ⟨⟨v, rfl, hv0, hv1⟩, hs⟩
  obtain ⟨j, rfl⟩ := Int.eq_ofNat_of_zero_le hv0
  have hj : j < ls.length := by omega
  have HS := Lib.hid hs
  obtain ⟨b', o', e1, hz, hcell⟩ := (hs.2.2.rd HR.out (fun ad ha => by injection ha with ha; subst ha; exact ⟨hg, hgl⟩)).strAt (k := j) hj
  injection e1 with e1
  injection e1 with e1 e2
  subst e1
  subst e2
  simp only [Nat.zero_add] at hcell
  have HM := Lib.hid (List.getElem_mem hj)
  generalize ls[j] = l at *
  clear hs hv0 hv1
  go_wp2_with fail
  go_ret
  exact ⟨⟨l, HM.out, rfl⟩, HS.out⟩
end Go.Proofs.Ytlohpphmamapeaa
/-
  The plain law of ParseInt: what the digits spell, and which texts are an integer's own.
  Conditions: none; no program in this text.
-/
namespace Go.Proofs.Ytlohpphmamapeaa
set_option linter.unusedVariables false
set_option linter.unusedSimpArgs false

def M.dvalFrom (a : Nat) (l : List UInt8) : Nat := l.foldl (fun a c => a * 10 + (c.toNat - 48)) a
def M.dval (l : List UInt8) : Nat := M.dvalFrom 0 l
def M.IsInt (v : Int) : Prop := -9223372036854775808 ≤ v ∧ v ≤ 9223372036854775807
def M.parseInt (l : List UInt8) : Int × Bool := match Lib.atoiAll l with
  | .ok v => if Lib.itoa v = l then (v, true) else (0, false)
  | _ => (0, false)
theorem dval_snoc (l : List UInt8) (c : UInt8) : M.dval (l ++ [c]) = M.dval l * 10 + (c.toNat - 48) := by simp [M.dval, M.dvalFrom]
theorem dval_succ (l : List UInt8) (i : Nat) (h : i < l.length) : M.dval (l.take (i + 1)) = M.dval (l.take i) * 10 + (l[i].toNat - 48) := by rw [List.take_succ_eq_append_getElem h, dval_snoc]
theorem dvalFrom_le (l : List UInt8) : ∀ a, a ≤ M.dvalFrom a l := by
  induction l with
  | nil => intro a; exact Nat.le_refl _
  | cons c r ih =>
    intro a
    have h := ih (a * 10 + (c.toNat - 48))
    have e : M.dvalFrom a (c :: r) = M.dvalFrom (a * 10 + (c.toNat - 48)) r := rfl
    omega
theorem dval_take_le (l : List UInt8) (i : Nat) : M.dval (l.take i) ≤ M.dval l := by
  conv => rhs; rw [← List.take_append_drop i l]
  unfold M.dval M.dvalFrom
  rw [List.foldl_append]
  exact dvalFrom_le _ _
theorem digit_ofNat (x : Nat) (h : x < 10) : (UInt8.ofNat (48 + x)).toNat = 48 + x := by rw [UInt8.toNat_ofNat']; omega
theorem dec_all : ∀ u : Nat, (∀ c ∈ Lib.decDigits u, 48 ≤ c.toNat ∧ c.toNat ≤ 57) ∧ Lib.decDigits u ≠ [] ∧ M.dval (Lib.decDigits u) = u := by
  intro u
  induction u using Nat.strongRecOn with
  | _ u ih =>
    by_cases h : u < 10
    · rw [Lib.decDigits, dif_pos h]
      refine ⟨fun c hc => ?_, by simp, ?_⟩
      · obtain rfl := List.mem_singleton.1 hc
        have := digit_ofNat u h
        omega
      · have := digit_ofNat u h
        simp only [M.dval, M.dvalFrom, List.foldl_cons, List.foldl_nil]
        omega
    · obtain ⟨h1, h2, h3⟩ := ih (u / 10) (by omega)
      rw [Lib.decDigits, dif_neg h]
      have hd := digit_ofNat (u % 10) (by omega)
      refine ⟨fun c hc => ?_, by simp, ?_⟩
      · rcases List.mem_append.1 hc with hc | hc
        · exact h1 c hc
        · obtain rfl := List.mem_singleton.1 hc
          omega
      · rw [dval_snoc, h3]
        omega
theorem nDigits_bound : ∀ (k u : Nat), u < 10 ^ (k + 1) → Lib.nDigits u ≤ k + 1
  | 0, u, h => by rw [Lib.nDigits_small (by simpa using h)]; exact Nat.le_refl _
  | k + 1, u, h => by
    by_cases hs : u < 10
    · rw [Lib.nDigits_small hs]; omega
    · rw [Lib.nDigits_big hs]
      have := nDigits_bound k (u / 10) (by rw [Nat.pow_succ] at h; omega)
      omega
theorem dec_len19 (u : Nat) (h : u ≤ 9223372036854775808) : (Lib.decDigits u).length ≤ 19 := by
  rw [Lib.decDigits_length]
  exact nDigits_bound 18 u (by omega)
theorem dec_isDigits (u : Nat) : M.IsDigits (Lib.decDigits u) = true := by
  obtain ⟨h1, h2, _⟩ := dec_all u
  unfold M.IsDigits
  rw [Bool.and_eq_true, List.all_eq_true]
  refine ⟨by cases hh : Lib.decDigits u with
             | nil => exact absurd hh h2
             | cons a r => rfl, fun c hc => ?_⟩
  have := h1 c hc
  unfold M.isDig
  simp
  omega
theorem isDigits_at {l : List UInt8} (h : M.IsDigits l = true) {i : Nat} (hi : i < l.length) : 48 ≤ l[i].toNat ∧ l[i].toNat ≤ 57 := by
  unfold M.IsDigits at h
  have := List.all_eq_true.1 (Bool.and_eq_true_iff.1 h).2 l[i] (List.getElem_mem hi)
  unfold M.isDig at this
  simp at this
  omega
theorem parse10 : ∀ (l : List UInt8) (a : Nat), (∀ c ∈ l, 48 ≤ c.toNat ∧ c.toNat ≤ 57) → M.dvalFrom a l < 18446744073709551616 → Lib.parseUint10 a l = .ok (M.dvalFrom a l)
  | [], a, _, _ => rfl
  | c :: r, a, h, hv => by
    have hc := h c (by simp)
    have e : M.dvalFrom a (c :: r) = M.dvalFrom (a * 10 + (c.toNat - 48)) r := rfl
    have hle := dvalFrom_le r (a * 10 + (c.toNat - 48))
    rw [e] at hv ⊢
    rw [Lib.parseUint10, if_pos hc, if_neg (by omega), if_neg (by omega)]
    exact parse10 r _ (fun c' hc' => h c' (List.mem_cons_of_mem _ hc')) hv
theorem parseMag_dec (u : Nat) (h : u ≤ 9223372036854775808) : Lib.parseMag (Lib.decDigits u) = .ok u := by
  obtain ⟨h1, h2, h3⟩ := dec_all u
  unfold Lib.parseMag
  rw [if_neg h2, parse10 _ _ h1 (by unfold M.dval at h3; omega)]
  unfold M.dval at h3
  rw [h3]
theorem atoi_itoa (v : Int) (h : M.IsInt v) : Lib.atoiAll (Lib.itoa v) = .ok v := by
  obtain ⟨h0, h1⟩ := h
  by_cases hv : v < 0
  · obtain ⟨u, hu⟩ := Int.eq_ofNat_of_zero_le (show 0 ≤ -v by omega)
    have hu' : v = -(u : Int) := by omega
    subst hu'
    rw [Lib.itoa_neg u (by omega), Lib.atoiAll_minus, parseMag_dec u (by omega)]
    unfold Lib.signed
    simp only
    rw [if_neg (by omega)]
  · obtain ⟨u, rfl⟩ := Int.eq_ofNat_of_zero_le (show 0 ≤ v by omega)
    rw [Lib.itoa_nonneg]
    obtain ⟨d1, d2, _⟩ := dec_all u
    have hp := parseMag_dec u (by omega)
    cases hd : Lib.decDigits u with
    | nil => exact absurd hd d2
    | cons c r =>
      rw [hd] at d1 hp
      have hc := d1 c (by simp)
      rw [Lib.atoiAll_plain c r (by omega) (by omega), hp]
      unfold Lib.signless
      simp only
      rw [if_neg (by omega)]
theorem itoa_inj {v v' : Int} (h : M.IsInt v) (h' : M.IsInt v') (e : Lib.itoa v = Lib.itoa v') : v = v' := by
  have h1 := atoi_itoa v h
  rw [e, atoi_itoa v' h'] at h1
  injection h1 with h1
  exact h1.symm
theorem parse_itoa (v : Int) (h : M.IsInt v) : M.parseInt (Lib.itoa v) = (v, true) := by
  unfold M.parseInt
  rw [atoi_itoa v h]
  simp
theorem parse_or (l : List UInt8) : (∃ v, M.IsInt v ∧ Lib.itoa v = l ∧ M.parseInt l = (v, true)) ∨ ((∀ v, M.IsInt v → Lib.itoa v ≠ l) ∧ M.parseInt l = (0, false)) := by
  by_cases h : ∃ v, M.IsInt v ∧ Lib.itoa v = l
  · obtain ⟨v, h1, rfl⟩ := h
    exact Or.inl ⟨v, h1, rfl, parse_itoa v h1⟩
  · refine Or.inr ⟨fun v h1 h2 => h ⟨v, h1, h2⟩, ?_⟩
    unfold M.parseInt
    cases ha : Lib.atoiAll l with
    | ok v => exact if_neg fun e => h ⟨v, Lib.atoiAll_bounds ha, e⟩
    | _ => rfl
/-- The sign and the digits of a text. -/
def M.signed (sg : Bool) (t : List UInt8) : List UInt8 := if sg = true then 45 :: t else t
theorem itoa_split {v : Int} {sg : Bool} {t : List UInt8} (hn : sg = false → t.head? ≠ some 45) (h : Lib.itoa v = M.signed sg t) : t = Lib.decDigits v.natAbs ∧ (sg = true ↔ v < 0) := by
  by_cases hv : v < 0
  · obtain ⟨u, hu⟩ := Int.eq_ofNat_of_zero_le (show 0 ≤ -v by omega)
    have hu' : v = -(u : Int) := by omega
    subst hu'
    rw [Lib.itoa_neg u (by omega)] at h
    have hab : (-(u : Int)).natAbs = u := by omega
    rw [hab]
    cases sg with
    | true =>
      unfold M.signed at h
      simp only [if_true] at h
      injection h with h1 h2
      exact ⟨h2.symm, by simp; omega⟩
    | false =>
      unfold M.signed at h
      simp only [Bool.false_eq_true, if_false] at h
      exact absurd (by rw [← h]; rfl) (hn rfl)
  · obtain ⟨u, rfl⟩ := Int.eq_ofNat_of_zero_le (show 0 ≤ v by omega)
    rw [Lib.itoa_nonneg] at h
    have hab : ((u : Int)).natAbs = u := by omega
    rw [hab]
    cases sg with
    | true =>
      unfold M.signed at h
      simp only [if_true] at h
      have := (dec_all u).1 45 (by rw [h]; simp)
      simp at this
    | false =>
      unfold M.signed at h
      simp only [Bool.false_eq_true, if_false] at h
      exact ⟨h.symm, by simp⟩
section
variable {sg : Bool} {t : List UInt8}
theorem pi_bad (hn : sg = false → t.head? ≠ some 45) (h : M.IsDigits t = false ∨ 19 < t.length) : M.parseInt (M.signed sg t) = (0, false) := by
  rcases parse_or (M.signed sg t) with ⟨v, hv, he, hp⟩ | ⟨_, hp⟩
  · obtain ⟨rfl, _⟩ := itoa_split hn he
    have h1 := dec_isDigits v.natAbs
    have h2 := dec_len19 v.natAbs (by have := hv.1; have := hv.2; omega)
    rcases h with h | h
    · rw [h] at h1; cases h1
    · omega
  · exact hp
theorem pi_over (hn : sg = false → t.head? ≠ some 45) {i : Nat} (h : 9223372036854775808 < M.dval (t.take i)) : M.parseInt (M.signed sg t) = (0, false) := by
  rcases parse_or (M.signed sg t) with ⟨v, hv, he, hp⟩ | ⟨_, hp⟩
  · obtain ⟨rfl, _⟩ := itoa_split hn he
    have h1 := dval_take_le (Lib.decDigits v.natAbs) i
    rw [(dec_all v.natAbs).2.2] at h1
    have := hv.1
    have := hv.2
    omega
  · exact hp
theorem pi_edge (hn : t.head? ≠ some 45) (h : M.dval t = 9223372036854775808) : M.parseInt (M.signed false t) = (0, false) := by
  rcases parse_or (M.signed false t) with ⟨v, hv, he, hp⟩ | ⟨_, hp⟩
  · obtain ⟨rfl, hs⟩ := itoa_split (fun _ => hn) he
    rw [(dec_all v.natAbs).2.2] at h
    have := hv.1
    have := hv.2
    have : ¬ v < 0 := fun e => by have := hs.2 e; cases this
    omega
  · exact hp
theorem pi_end (hn : sg = false → t.head? ≠ some 45) {n : Int} (hi : M.IsInt n) (h : n = if sg = true then -(M.dval t : Int) else (M.dval t : Int)) : M.parseInt (M.signed sg t) = if Lib.itoa n = M.signed sg t then (n, true) else (0, false) := by
  rcases parse_or (M.signed sg t) with ⟨v, hv, he, hp⟩ | ⟨hno, hp⟩
  · obtain ⟨rfl, hs⟩ := itoa_split hn he
    rw [(dec_all v.natAbs).2.2] at h
    have e : n = v := by
      cases sg with
      | true =>
        have := hs.1 rfl
        simp only [if_true] at h
        omega
      | false =>
        have : ¬ v < 0 := fun e => by have := hs.2 e; cases this
        simp only [Bool.false_eq_true, if_false] at h
        omega
    subst e
    rw [hp, if_pos he]
  · rw [hp, if_neg (hno n hi)]
end
end Go.Proofs.Ytlohpphmamapeaa
/-
  Contracts of FormatInt.
  Conditions: the table uint64pow10 reads as its initialiser lays it.
-/
namespace Go.Proofs.Ytlohpphmamapeaa
open Go.RowKit
set_option linter.unusedVariables false

theorem dec_step (m : Nat) (t : List UInt8) (h : 9 < m) : Lib.decDigits (m / 10) ++ (UInt8.ofNat (48 + m % 10) :: t) = Lib.decDigits m ++ t := by
  conv => rhs; rw [Lib.decDigits, dif_neg (by omega)]
  simp
theorem dec_len (u : Nat) (h : u ≤ 9223372036854775808) : (Lib.decDigits u).length ≤ 20 := by
  by_cases h0 : u = 0
  · subst h0; rw [Lib.decDigits, dif_pos (by omega)]; simp
  · have h1 := Lib.itoa_length_le (-(u : Int)) (by omega) (by omega)
    rw [Lib.itoa_neg u (by omega), List.length_cons] at h1
    omega
theorem itoa_len (n : Int) (h0 : -9223372036854775808 ≤ n) (h1 : n ≤ 9223372036854775807) : (Lib.itoa n).length ≤ 21 := Lib.itoa_length_le n h0 h1


set_option maxRecDepth 100000 in
set_option maxHeartbeats 1000000 in
theorem spec_FormatInt_pos (N : Nat) (w : World) (h1 : N ≤ 9223372036854775807) : Calls Try.prog 195 #[.int .i64 (N : Int)] w fun e w' => e = .returned (.string ⟨(Lib.decDigits N).toArray⟩) ∧ Below w.heap.size w w' := by
  have HL := Lib.hid (dec_len N (by omega))
  go_enter Try.func195, Try.ntmps195
  go_wp2
  go_loopw [0, 3] (fun a s wr => ∃ (n : Nat) (acc : List UInt8), n ≤ N ∧ a = .int .i64 n ∧ s = .string ⟨acc.toArray⟩ ∧ Lib.decDigits n ++ acc = Lib.decDigits N ∧ Below w.heap.size w wr) (fun a _ _ => (intOf a).toNat)
  case atStart => exact ⟨N, [], by omega, rfl, rfl, by simp, Below.refl _ _⟩
  case round =>
    obtain ⟨n, acc, hn, rfl, rfl, hd, hb⟩ := hrel
    have hal : acc.length ≤ 20 := by
      have h2 := congrArg List.length hd
      rw [List.length_append] at h2
      have := HL.out
      omega
    have HD := Lib.hid hd
    have HB := Lib.hid hb
    clear hd hb
    by_cases hlt : 9 < n
    · have hc := oneByte wr (48 + (n : Int) % 10) (by omega) (by omega)
      obtain ⟨x, hx⟩ : ∃ x : UInt8, x = UInt8.ofNat (48 + (n : Int) % 10).toNat := ⟨_, rfl⟩
      rw [← hx] at hc
      have hx' : x = UInt8.ofNat (48 + n % 10) := by rw [hx]; congr 1
      have HX := Lib.hid hx'
      clear hx hx'
      go_wp2
      go_roundw
      case rel => exact ⟨n / 10, x :: acc, by omega, by go_num, rfl, by rw [HX.out, dec_step n acc hlt]; exact HD.out, HB.out.alloc HB.out.size _⟩
      case measure => simp [intOf]; omega
    · have hc := oneByte wr (48 + (n : Int)) (by omega) (by omega)
      obtain ⟨x, hx⟩ : ∃ x : UInt8, x = UInt8.ofNat (48 + (n : Int)).toNat := ⟨_, rfl⟩
      rw [← hx] at hc
      have hx' : x = UInt8.ofNat (48 + n) := by rw [hx]; congr 1
      have HX := Lib.hid hx'
      clear hx hx'
      go_wp2
      go_ret
      refine ⟨ret_str ?_, HB.out.alloc HB.out.size _⟩
      have h2 := HD.out
      rw [Lib.decDigits_one (by omega)] at h2
      rw [HX.out, ← h2]
      rfl
theorem oneByteAt (W : World) (g : Nat) (x : Int) (h0 : 0 ≤ x) (h : x < 256) (hc : W.cell? ⟨g, 0, none⟩ = some (.int .u8 x)) : (convert 75 9 (.slice (some ⟨g, 0, none⟩) 1 1)).run Try.prog W = .ok (.string ⟨[UInt8.ofNat x.toNat].toArray⟩) W := by
  have hx : ((UInt8.ofNat x.toNat).toNat : Int) = x := by
    rw [UInt8.toNat_ofNat']
    omega
  exact run_convert_bytes_back (P := Try.prog) W 75 9 5 ⟨g, 0, none⟩ 1 [UInt8.ofNat x.toNat] Try.underlying75 Try.underlying5 Try.underlying9 (fun j hj => by
    obtain rfl : j = 0 := by simpa using hj
    have ha : (⟨g, 0, none⟩ : Addr).add 0 = ⟨g, 0, none⟩ := rfl
    rw [ha, hc]
    simp only [List.getElem_cons_zero]
    rw [hx])
theorem newByte (W : World) (x : Int) : (W.alloc (.cells #[.int .u8 x] 5)).cell? ⟨W.heap.size, 0, none⟩ = some (.int .u8 x) := by simp [go_sem]
theorem newByteD (W : World) (x : Int) : (W.alloc (.cells #[.int .u8 x] 5)).drew.cell? ⟨W.heap.size, 0, none⟩ = some (.int .u8 x) := by simp [go_sem]
theorem tdiv10 (u : Nat) : Int.tdiv (-(u : Int)) 10 = -((u / 10 : Nat) : Int) := by rw [Int.neg_tdiv]; rfl
theorem tmod10 (u : Nat) : Int.tmod (-(u : Int)) 10 = -((u % 10 : Nat) : Int) := by rw [Int.neg_tmod]; rfl
set_option maxRecDepth 100000 in
set_option maxHeartbeats 1000000 in
theorem spec_FormatInt_neg : ∀ (f u : Nat), u ≤ f → 1 ≤ u → u ≤ 9223372036854775808 → ∀ w : World, Calls Try.prog 195 #[.int .i64 (-(u : Int))] w fun e w' => e = .returned (.string ⟨(45 :: Lib.decDigits u).toArray⟩) ∧ Below w.heap.size w w'
  | 0, u, h, h1, _, w => by omega
  | f + 1, u, h, h1, h2, w => by
    by_cases hs : u < 10
    case pos =>
      have hc := oneByte w (48 + (u : Int)) (by omega) (by omega)
      obtain ⟨x, hx⟩ : ∃ x : UInt8, x = UInt8.ofNat (48 + (u : Int)).toNat := ⟨_, rfl⟩
      rw [← hx] at hc
      have hx' : [x] = Lib.decDigits u := by rw [hx, Lib.decDigits_one hs]; congr 1
      have hd := tdiv10 u
      rw [Nat.div_eq_of_lt hs] at hd
      rw [← hx']
      clear hx hx'
      go_enter Try.func195, Try.ntmps195
      go_wp2
      go_ret
      exact ⟨rfl, (Below.refl _ _).alloc (Nat.le_refl _) _⟩
    case neg =>
      have IH := Lib.hid (spec_FormatInt_neg f (u / 10) (by omega) (by omega) (by omega))
      have hd := tdiv10 u
      have hm := tmod10 u
      have hdd : Lib.decDigits u = Lib.decDigits (u / 10) ++ [UInt8.ofNat (48 + u % 10)] := by rw [Lib.decDigits, dif_neg hs]
      have hl := dec_len (u / 10) (by omega)
      have hq : u / 10 ≠ 0 := by omega
      have hq2 : u / 10 ≤ 922337203685477580 := by omega
      have hr : u % 10 < 10 := by omega
      have hc := fun W => oneByte W (48 + ((u % 10 : Nat) : Int)) (by omega) (by omega)
      obtain ⟨x, hx⟩ : ∃ x : UInt8, x = UInt8.ofNat (48 + ((u % 10 : Nat) : Int)).toNat := ⟨_, rfl⟩
      have hx' : x = UInt8.ofNat (48 + u % 10) := by rw [hx]; congr 1
      rw [hdd, ← hx']
      simp only [← hx] at hc
      clear hx' hdd
      generalize Lib.decDigits (u / 10) = t at *
      generalize u / 10 = q at *
      generalize u % 10 = r at *
      have HX := Lib.hid hx
      clear hx
      go_enter Try.func195, Try.ntmps195
      go_wp2_with fail
      have hr0 : (0 : Int) ≤ 48 + (r : Int) := by omega
      have hr1 : 48 + (r : Int) < 256 := by omega
      have hc0 := oneByteAt ((w.alloc (.cells #[.int .u8 (48 + (r : Int))] 5)).drew) _ _ hr0 hr1 (newByteD _ _)
      rw [← HX.out] at hc0
      have hw1 : IntKind.i64.wrap (-(q : Int)) = -(q : Int) := IntWalk.i64_in _ (by omega)
      have hw2 : IntKind.i64.wrap (48 + (r : Int)) = 48 + (r : Int) := IntWalk.i64_in _ (by omega)
      have hw3 : IntKind.u8.wrap (48 + (r : Int)) = 48 + (r : Int) := IntWalk.u8_in _ (by omega)
      go_region_with (go_simp; go_at_call 195; refine (IH.out _).mono ?_; rintro e w1 ⟨rfl, hb⟩; have hc1 := hc w1; (first | (have hc2 := oneByteAt w1 _ _ hr0 hr1 (cellKeep hb (newByteD _ _)); rw [← HX.out] at hc2) | skip))
      all_goals
        go_wp2_with fail
        go_ret
        first
        | exact ⟨rfl, (below_then (a := w) ((Below.refl _ _).drew) hb).alloc (below_then (a := w) ((Below.refl _ _).drew) hb).size _⟩
        | exact ⟨rfl, below_then (a := w) (((Below.refl _ _).alloc (Nat.le_refl _) _).drew) hb⟩
theorem spec_FormatInt_c (n : Int) (w : World) (h0 : -9223372036854775808 ≤ n) (h1 : n ≤ 9223372036854775807) : Calls Try.prog 195 #[.int .i64 n] w fun e w' => e = .returned (.string ⟨(Lib.itoa n).toArray⟩) ∧ Below w.heap.size w w' := by
  by_cases hn : n < 0
  · obtain ⟨u, hu⟩ := Int.eq_ofNat_of_zero_le (show 0 ≤ -n by omega)
    have hu' : n = -(u : Int) := by omega
    subst hu'
    rw [Lib.itoa_neg u (by omega)]
    exact spec_FormatInt_neg u u (Nat.le_refl _) (by omega) (by omega) w
  · obtain ⟨u, rfl⟩ := Int.eq_ofNat_of_zero_le (show 0 ≤ n by omega)
    rw [Lib.itoa_nonneg]
    exact spec_FormatInt_pos u w (by omega)
end Go.Proofs.Ytlohpphmamapeaa
/-
  Contracts of FormatSystem.
  Conditions: at most 2^20 rules of at most 2^20 letters; the table uint64pow10 reads as its initialiser lays it.
-/
namespace Go.Proofs.Ytlohpphmamapeaa
open Go.RowKit
set_option linter.unusedVariables false
set_option linter.unusedSimpArgs false

def M.fmtTo (k : Int) (rs : List M.Rule) (i : Nat) : List UInt8 := Lib.itoa k ++ Lib.joinTail [32] ((rs.map M.FormatRule).take i)
def M.FormatSystem (k : Int) (rs : List M.Rule) : List UInt8 := if M.RulesOk k rs = true then M.fmtTo k rs rs.length else []
theorem fs_no {k : Int} {rs : List M.Rule} (h : M.RulesOk k rs = false) : M.FormatSystem k rs = [] := if_neg (by rw [h]; simp)
theorem fs_yes {k : Int} {rs : List M.Rule} (h : M.RulesOk k rs = true) : M.FormatSystem k rs = M.fmtTo k rs rs.length := if_pos h
theorem fs_parts {k : Int} {rs : List M.Rule} (h : M.RulesOk k rs = true) : (1 ≤ k ∧ k ≤ 4) ∧ rs.length ≤ 12 ∧ ∀ r ∈ rs, r.left.length ≤ 8 ∧ r.right.length ≤ 8 := by
  unfold M.RulesOk at h
  obtain ⟨h1, h2⟩ := Bool.and_eq_true_iff.1 h
  obtain ⟨h2, h3⟩ := Bool.and_eq_true_iff.1 h2
  refine ⟨by unfold M.within at h1; simpa using h1, of_decide_eq_true h2, fun r hr => ?_⟩
  have hb : M.ruleBad k r = false := by
    by_cases hb : M.ruleBad k r = true
    · have : rs.any (M.ruleBad k) = true := List.any_eq_true.2 ⟨r, hr, hb⟩
      rw [this] at h3
      cases h3
    · simpa using hb
  unfold M.ruleBad at hb
  have h4 : M.SidesOk k r = true := by
    cases hs : M.SidesOk k r
    · rw [hs] at hb; cases hb
    · rfl
  unfold M.SidesOk at h4
  obtain ⟨h4, h6⟩ := Bool.and_eq_true_iff.1 h4
  obtain ⟨_, h5⟩ := Bool.and_eq_true_iff.1 h4
  have h5 := of_decide_eq_true h5
  have h6 := of_decide_eq_true h6
  omega
theorem fmt_zero (k : Int) (rs : List M.Rule) : M.fmtTo k rs 0 = Lib.itoa k := by simp [M.fmtTo, Lib.joinTail]
theorem fmt_succ {k : Int} {rs : List M.Rule} {i : Nat} (h : i < rs.length) : M.fmtTo k rs (i + 1) = M.fmtTo k rs i ++ [32] ++ M.FormatRule rs[i] := by
  unfold M.fmtTo
  rw [Lib.joinTail_take_succ [32] _ i (M.FormatRule rs[i]) (by simp [h])]
  simp [List.append_assoc]
theorem fr_len {r : M.Rule} (h : r.left.length ≤ 8 ∧ r.right.length ≤ 8) : (M.FormatRule r).length ≤ 19 := by
  have h1 := M.dotted_len r.left
  have h2 := M.dotted_len r.right
  unfold M.FormatRule
  rw [List.length_append, List.length_cons]
  omega
theorem fmt_len {k : Int} {rs : List M.Rule} (h : M.RulesOk k rs = true) : ∀ i, i ≤ rs.length → (M.fmtTo k rs i).length ≤ 21 + 20 * i
  | 0, _ => by
    obtain ⟨h1, _⟩ := fs_parts h
    rw [fmt_zero]
    exact itoa_len k (by omega) (by omega)
  | i + 1, hi => by
    obtain ⟨_, _, h3⟩ := fs_parts h
    have ih := fmt_len h i (by omega)
    have hr := fr_len (h3 rs[i] (List.getElem_mem (by omega)))
    rw [fmt_succ (by omega), List.length_append, List.length_append]
    simp only [List.length_cons, List.length_nil]
    omega
def M.fmtWords (k : Int) (rs : List M.Rule) (i : Nat) : List (List UInt8) := Lib.itoa k :: (rs.map M.FormatRule).take i
theorem fw_len {k : Int} {rs : List M.Rule} {i : Nat} (h : i ≤ rs.length) : (M.fmtWords k rs i).length = i + 1 := by simp [M.fmtWords, Nat.min_eq_left h]
theorem fw_succ {k : Int} {rs : List M.Rule} {i : Nat} (h : i < rs.length) : strs (M.fmtWords k rs (i + 1)) = strs (M.fmtWords k rs i) ++ [.string ⟨(M.FormatRule rs[i]).toArray⟩] := by
  unfold M.fmtWords
  rw [List.take_succ_eq_append_getElem (by simpa using h)]
  simp [strs]
theorem fw_join (k : Int) (rs : List M.Rule) (i : Nat) : Lib.join (M.fmtWords k rs i) [32] = M.fmtTo k rs i := by rw [M.fmtWords, Lib.join_cons]; rfl
theorem lens_bound {ls : List (List UInt8)} {b : Nat} (h : ∀ l ∈ ls, l.length ≤ b) : Lib.lens ls ≤ b * ls.length := by
  induction ls with
  | nil => simp [Lib.lens]
  | cons x r ih =>
    have e : Lib.lens (x :: r) = x.length + Lib.lens r := by simp [Lib.lens]
    have h1 := ih fun l hl => h l (List.mem_cons_of_mem _ hl)
    have h2 := h x (by simp)
    rw [e, List.length_cons, Nat.mul_add]
    omega
theorem fw_lens {k : Int} {rs : List M.Rule} (h : M.RulesOk k rs = true) : Lib.lens (M.fmtWords k rs rs.length) ≤ 1048576 := by
  obtain ⟨h1, h2, h3⟩ := fs_parts h
  have hb := lens_bound (ls := M.fmtWords k rs rs.length) (b := 21) (fun l hl => by
    unfold M.fmtWords at hl
    rcases List.mem_cons.1 hl with e | e
    · subst e; exact itoa_len k (by omega) (by omega)
    · obtain ⟨r, hr, rfl⟩ := List.mem_map.1 (List.mem_of_mem_take e)
      have := fr_len (h3 r hr)
      omega)
  rw [fw_len (Nat.le_refl _)] at hb
  omega
theorem own_someF {w : World} {base size n c : Nat} {e : TypeId} {A : Option Addr} {xs : List Value} (h : w.ownsRow base e size (.slice A n c) n xs) (hn : 0 < n) : (∃ g, A = some ⟨g, 0, none⟩) ∧ n ≤ c := by
  rcases h.2 with ⟨_, h0⟩ | ⟨g, cap, cur, hv, hb, hg, hnc, hm, hcs, ht⟩
  · omega
  · injection hv with hA hn' hc
    subst hc
    exact ⟨⟨g, hA⟩, hnc⟩

set_option maxRecDepth 100000 in
set_option maxHeartbeats 2000000 in
theorem spec_FormatSystem_c (k : Int) (A : Option Addr) (c : Nat) (rs : List M.Rule) (w : World) (hA : Rd w 2 A rs.length (ruls rs)) (hl : rs.length ≤ 1048576) (hs : ∀ r ∈ rs, r.left.length ≤ 1048576 ∧ r.right.length ≤ 1048576) :
    Calls Try.prog 180 #[.agg #[.int .i64 k, .slice A rs.length c]] w fun e w' => e = .returned (.string ⟨(M.FormatSystem k rs).toArray⟩) ∧ Below w.heap.size w w' := by
  have HA := Lib.hid hA
  have HS := Lib.hid hs
  have h1 := Lib.hid (fun W hA => spec_RulesOk_c k A c rs W hA hl hs)
  obtain ⟨x, hx⟩ : ∃ x, x = M.RulesOk k rs := ⟨_, rfl⟩
  rw [← hx] at h1
  have HP := Lib.hid (fun (o : Obj) => (Below.refl w.heap.size w).alloc (Nat.le_refl _) o)
  cases x
  case false =>
    rw [fs_no hx.symm]
    clear hA hs hx
    go_enter Try.func180, Try.ntmps180
    go_wp2_with fail
    refine (h1.out _ (HA.out.below (HP.out _))).mono ?_
    rintro e w1 ⟨rfl, hb⟩
    go_wp2_with fail
    go_ret
    exact ⟨rfl, below_alloc1 hb⟩
  case true =>
  rw [fs_yes hx.symm]
  obtain ⟨hk, h12, h8⟩ := fs_parts hx.symm
  have HF := Lib.hid (fun i hi => fmt_len hx.symm i hi)
  have HN := Lib.hid (fun i (h : i < rs.length) => fmt_succ (k := k) h)
  have H8 := Lib.hid h8
  have HI := Lib.hid (fun W => spec_FormatInt_c k W (by omega) (by omega))
  have HZ := Lib.hid (fmt_zero k rs)
  rw [← HZ.out] at HI
  clear hA hs hx h8
  obtain ⟨n, hn⟩ : ∃ n, n = rs.length := ⟨_, rfl⟩
  have HNN := Lib.hid hn
  rw [← hn] at h12 h1 HA ⊢
  clear hn hl
  go_enter Try.func180, Try.ntmps180
  go_wp2_with fail
  refine (h1.out _ (HA.out.below (HP.out _))).mono ?_
  rintro e w1 ⟨rfl, hb⟩
  have c0 : w1.cell? ⟨w.heap.size, 0, none⟩ = some (.int .i64 k) := cellKeep hb (by simp [go_sem])
  have c1 : w1.cell? ⟨w.heap.size, 1, none⟩ = some (.slice A n c) := cellKeep hb (by simp [go_sem])
  have T1 := Lib.hid (below_alloc1 hb)
  clear hb
  go_wp2_with fail
  refine (HI.out _).mono ?_
  rintro e w2 ⟨rfl, hb⟩
  have c2 : w2.cell? ⟨w.heap.size, 1, none⟩ = some (.slice A n c) := cellKeep hb c1
  have T2 := Lib.hid (T1.out.trans (hb.mono T1.out.size))
  clear hb c0 c1
  go_wp2_with fail
  go_loopw [3, 15] (fun s z wr => ∃ i : Nat, i ≤ n ∧ z = .int .i64 i ∧ s = .string ⟨(M.fmtTo k rs i).toArray⟩ ∧ Below w.heap.size w wr) (fun _ z _ => n - (intOf z).toNat)
  case atStart => exact ⟨0, by omega, rfl, rfl, T2.out⟩
  case round =>
    obtain ⟨i, hi, rfl, rfl, hb⟩ := hrel
    have HB := Lib.hid hb
    clear hb
    have hfl := HF.out i (by rw [← HNN.out]; exact hi)
    by_cases hlt : i < n
    · obtain ⟨b, o, rfl, hz, hc1, hc2⟩ := (HA.out.below HB.out).ruleAt (k := i) hlt
      have h8 := H8.out rs[i] (List.getElem_mem hz)
      have HS1 := Lib.hid (HN.out i (by rw [← HNN.out]; exact hlt))
      generalize hrr : rs[i] = r at *
      obtain ⟨rl, rr⟩ := r
      clear hrr
      simp only at hc1 hc2 h8
      have hfr := fr_len (r := ⟨rl, rr⟩) h8
      have HR := Lib.hid (fun W => spec_FormatRule_c rl rr W (by omega) (by omega))
      generalize M.FormatRule ⟨rl, rr⟩ = f at *
      generalize hto : M.fmtTo k rs i = t at *
      go_wp2_with fail
      refine (HR.out _).mono ?_
      rintro e w3 ⟨rfl, hb⟩
      have HB3 := Lib.hid (HB.out.trans ((below_alloc1 hb).mono HB.out.size))
      clear hb
      go_wp2_with fail
      go_roundw
      case rel => exact ⟨i + 1, by omega, by go_num, by rw [HS1.out]; simp [List.append_assoc], HB3.out⟩
      case measure => simp [intOf] <;> omega
    · obtain rfl : i = n := by omega
      go_wp2_with fail
      go_ret
      exact ⟨rfl, HB.out⟩
end Go.Proofs.Ytlohpphmamapeaa
/-
  The plain law of ParseSystem.
  Conditions: none; no program in this text.
-/
namespace Go.Proofs.Ytlohpphmamapeaa
open Go.RowKit
set_option linter.unusedVariables false
set_option linter.unusedSimpArgs false

def M.psN (l : List UInt8) : Int := (M.parseInt ((M.SplitAny l [32]).headD [])).1
def M.psF (x : List UInt8) : M.Rule := (M.ParseRule x).1
def M.psR (l : List UInt8) : List M.Rule := ((M.SplitAny l [32]).drop 1).map M.psF
def M.psB (l : List UInt8) : Bool := decide (l ≠ [] ∧ M.FormatSystem (M.psN l) (M.psR l) = l)
def M.psK (l : List UInt8) : Int := if M.psB l = true then M.psN l else 0
def M.psQ (l : List UInt8) : List M.Rule := if M.psB l = true then M.psR l else []
theorem ps_no {l : List UInt8} (h : M.psB l = false) : M.psK l = 0 ∧ M.psQ l = [] := ⟨if_neg (by rw [h]; simp), if_neg (by rw [h]; simp)⟩
theorem ps_yes {l : List UInt8} (h : M.psB l = true) : M.psK l = M.psN l ∧ M.psQ l = M.psR l := ⟨if_pos h, if_pos h⟩
theorem psB_iff (l : List UInt8) : M.psB l = true ↔ l ≠ [] ∧ M.FormatSystem (M.psN l) (M.psR l) = l := by unfold M.psB; simp
theorem ps_rules {l : List UInt8} (h : M.psB l = true) : M.RulesOk (M.psN l) (M.psR l) = true := by
  obtain ⟨h1, h2⟩ := (psB_iff l).1 h
  by_cases hr : M.RulesOk (M.psN l) (M.psR l) = true
  · exact hr
  · rw [fs_no (by simpa using hr)] at h2
    exact absurd h2.symm h1
theorem ps_false {l : List UInt8} (h : ¬ (M.psB l = true)) : M.psB l = false := by simpa using h
theorem parseInt_zero {x : List UInt8} (h : (M.parseInt x).2 = false) : (M.parseInt x).1 = 0 := by
  rcases parse_or x with ⟨v, _, _, hp⟩ | ⟨_, hp⟩
  · rw [hp] at h; cases h
  · rw [hp]
theorem parseRule_zero {x : List UInt8} (h : (M.ParseRule x).2 = false) : (M.ParseRule x).1 = ⟨[], []⟩ := by
  unfold M.ParseRule M.ruleOf at h ⊢
  split at h
  · cases h
  · rename_i hn; rw [if_neg hn]
theorem ps_bad1 {l : List UInt8} (h : (M.parseInt ((M.SplitAny l [32]).headD [])).2 = false) : M.psB l = false := ps_false fun hb => by
  have h1 := (fs_parts (ps_rules hb)).1
  have h2 : M.psN l = 0 := parseInt_zero h
  omega
theorem ps_bad2 {l x : List UInt8} (hx : x ∈ (M.SplitAny l [32]).drop 1) (h : (M.ParseRule x).2 = false) : M.psB l = false := ps_false fun hb => by
  have h1 := ps_rules hb
  unfold M.RulesOk at h1
  have h3 := (Bool.and_eq_true_iff.1 (Bool.and_eq_true_iff.1 h1).2).2
  have hr : (⟨[], []⟩ : M.Rule) ∈ M.psR l := List.mem_map.2 ⟨x, hx, parseRule_zero h⟩
  have hb : (M.psR l).any (M.ruleBad (M.psN l)) = true := List.any_eq_true.2 ⟨_, hr, by unfold M.ruleBad; simp⟩
  rw [hb] at h3
  cases h3
theorem ps_bad3 {l : List UInt8} (h : M.RulesOk (M.psN l) (M.psR l) = false) : M.psB l = false := ps_false fun hb => by rw [ps_rules hb] at h; cases h
theorem ps_bad4 {l : List UInt8} (h : ¬ M.FormatSystem (M.psN l) (M.psR l) = l) : M.psB l = false := ps_false fun hb => h ((psB_iff l).1 hb).2
theorem ps_bad5 {l : List UInt8} (h : 13 < (M.SplitAny l [32]).length) : M.psB l = false := ps_false fun hb => by
  have h1 := (fs_parts (ps_rules hb)).2.1
  unfold M.psR at h1
  rw [List.length_map, List.length_drop] at h1
  omega
theorem ps_bad6 {l : List UInt8} (h : l = []) : M.psB l = false := ps_false fun hb => ((psB_iff l).1 hb).1 h
theorem ps_ok {l : List UInt8} (h : M.RulesOk (M.psN l) (M.psR l) = true) (hf : M.FormatSystem (M.psN l) (M.psR l) = l) : M.psB l = true := (psB_iff l).2 ⟨fun e => by
  have h1 := hf
  rw [fs_yes h] at h1
  have h2 : (M.fmtTo (M.psN l) (M.psR l) (M.psR l).length).length = 0 := by rw [h1, e]; rfl
  unfold M.fmtTo at h2
  rw [List.length_append] at h2
  have h3 : 1 ≤ (Lib.itoa (M.psN l)).length := by
    unfold Lib.itoa
    split
    · simp
    · have := (dec_all (M.psN l).toNat).2.1
      cases hd : Lib.decDigits (M.psN l).toNat with
      | nil => exact absurd hd this
      | cons a r => simp
  omega, hf⟩
theorem ps_ok' {l : List UInt8} (h : l ≠ []) (hf : M.FormatSystem (M.psN l) (M.psR l) = l) : M.psB l = true := (psB_iff l).2 ⟨h, hf⟩
theorem psF_len (x : List UInt8) : (M.psF x).left.length ≤ 16 ∧ (M.psF x).right.length ≤ 16 := by
  unfold M.psF M.ParseRule M.ruleOf
  split
  · rename_i h
    have key : ∀ y, M.WordOk 4 y = true → y.length ≤ 16 := fun y hy => by
      unfold M.WordOk at hy
      have := (Bool.and_eq_true_iff.1 (Bool.and_eq_true_iff.1 hy).2).1
      have := of_decide_eq_true this
      omega
    exact ⟨key _ h.1, key _ h.2.1⟩
  · simp
theorem psR_len {l : List UInt8} {n : Nat} (h : (M.SplitAny l [32]).length = n + 1) : (M.psR l).length = n := by unfold M.psR; rw [List.length_map, List.length_drop]; omega
theorem psR_sides (l : List UInt8) : ∀ r ∈ M.psR l, r.left.length ≤ 1048576 ∧ r.right.length ≤ 1048576 := fun r hr => by
  obtain ⟨x, _, rfl⟩ := List.mem_map.1 hr
  have := psF_len x
  omega
theorem psR_succ {l : List UInt8} {i : Nat} (h : i + 1 < (M.SplitAny l [32]).length) : ruls ((M.psR l).take (i + 1)) = ruls ((M.psR l).take i) ++ [.string ⟨(M.psF ((M.SplitAny l [32])[i + 1])).left.toArray⟩, .string ⟨(M.psF ((M.SplitAny l [32])[i + 1])).right.toArray⟩] := by
  have hl : i < (M.psR l).length := by unfold M.psR; rw [List.length_map, List.length_drop]; omega
  have hg : (M.psR l)[i]? = some (M.psF ((M.SplitAny l [32])[i + 1])) := by
    unfold M.psR
    rw [List.getElem?_map, List.getElem?_drop, Nat.add_comm 1 i, List.getElem?_eq_getElem h]
    rfl
  rw [List.getElem?_eq_getElem hl] at hg
  injection hg with hg
  rw [List.take_succ_eq_append_getElem hl, ruls_add, hg]
  rfl
theorem psR_next {l : List UInt8} (i : Nat) (x : List UInt8) (h : (M.SplitAny l [32])[i + 1]? = some x) : ruls ((M.psR l).take (i + 1)) = ruls ((M.psR l).take i) ++ [.string ⟨(M.psF x).left.toArray⟩, .string ⟨(M.psF x).right.toArray⟩] := by
  obtain ⟨hi, rfl⟩ := List.getElem?_eq_some_iff.1 h
  exact psR_succ hi
theorem ps_head {l x : List UInt8} (h : (M.SplitAny l [32])[0]? = some x) : (M.parseInt x).1 = M.psN l ∧ ((M.parseInt x).2 = false → M.psB l = false) := by
  have e : (M.SplitAny l [32]).headD [] = x := by
    cases hz : M.SplitAny l [32] with
    | nil => rw [hz] at h; cases h
    | cons a r => rw [hz] at h; injection h with h
  exact ⟨by unfold M.psN; rw [e], fun h2 => ps_bad1 (by rw [e]; exact h2)⟩
theorem ps_fine {l : List UInt8} (i : Nat) (x : List UInt8) (h : (M.SplitAny l [32])[i + 1]? = some x) (h2 : (M.ParseRule x).2 = false) : M.psB l = false :=
  ps_bad2 (List.mem_of_getElem? (i := i) (by rw [List.getElem?_drop, Nat.add_comm 1 i]; exact h)) h2
/-- A call that returns a system of its own and whether there is one. -/
def RetSys (k : Int) (rs : List M.Rule) (b : Bool) (w : World) (x : Ending) (w' : World) : Prop :=
  ∃ A c, x = .returned (.tuple #[.agg #[.int .i64 k, .slice A rs.length c], .bool b]) ∧ Own w' w.heap.size 2 A rs.length (ruls rs) ∧ Below w.heap.size w w'
theorem retPs_no {l : List UInt8} {w w' : World} (h : M.psB l = false) (hb : Below w.heap.size w w') : RetSys (M.psK l) (M.psQ l) (M.psB l) w (.returned (.tuple #[.agg #[.int .i64 0, .slice none 0 0], .bool false])) w' := by
  obtain ⟨e1, e2⟩ := ps_no h
  rw [e1, e2, h]
  exact ⟨none, 0, rfl, ⟨rfl, fun h => absurd h (by simp)⟩, hb⟩
theorem retPs_yes {l : List UInt8} {w w' : World} {k : Int} {A : Option Addr} {n c : Nat} {rs : List M.Rule} (h : M.psB l = true) (hk : k = M.psN l) (hr : rs = M.psR l) (hn : n = rs.length) (ho : Own w' w.heap.size 2 A n (ruls rs)) (hb : Below w.heap.size w w') : RetSys (M.psK l) (M.psQ l) (M.psB l) w (.returned (.tuple #[.agg #[.int .i64 k, .slice A n c], .bool true])) w' := by
  obtain ⟨e1, e2⟩ := ps_yes h
  subst hk hr hn
  rw [e1, e2, h]
  exact ⟨A, c, rfl, ho, hb⟩
end Go.Proofs.Ytlohpphmamapeaa
/-
  Contracts of ParseInt.
  Conditions: at most 2^20 bytes; the table uint64pow10 and the two errors read as their initialisers lay them.
-/
namespace Go.Proofs.Ytlohpphmamapeaa
open Go.RowKit Go.ChangeShapes
set_option linter.unusedVariables false
set_option linter.unusedSimpArgs false

def ErrAt (w : World) (g : Nat) : Prop := ∃ ev, w.cell? ⟨g, 0, none⟩ = some ev ∧ (ev = .nilIface ∨ ∃ te pe, ev = .iface te pe)
theorem ErrAt.below {w w' : World} {g : Nat} (h : ErrAt w g) (hb : Below w.heap.size w w') : ErrAt w' g := by
  obtain ⟨ev, h1, h2⟩ := h
  exact ⟨ev, cellKeep hb h1, h2⟩


set_option maxRecDepth 100000 in
set_option maxHeartbeats 2000000 in
theorem spec_ParseInt_neg (t : List UInt8) (w : World) (hl : t.length ≤ 1048576) :
    Calls Try.prog 178 #[.string ⟨(45 :: t).toArray⟩] w fun e w' => e = .returned (.tuple #[.int .i64 (M.parseInt (45 :: t)).1, .bool (M.parseInt (45 :: t)).2]) ∧ Below w.heap.size w w' := by
  have HBAD := Lib.hid (fun h => pi_bad (sg := true) (t := t) (fun h => by cases h) h)
  have HOV := Lib.hid (fun i h => pi_over (sg := true) (t := t) (fun h => by cases h) (i := i) h)
  have HEND := Lib.hid (fun n hi h => pi_end (sg := true) (t := t) (fun h => by cases h) (n := n) hi h)
  have e1 : M.signed true t = (45 :: t) := rfl
  rw [e1] at HBAD HOV HEND
  have HD := Lib.hid (fun W => spec_IsDigits_c t W (by omega))
  clear e1
  obtain ⟨dg, hdg⟩ : ∃ dg, dg = M.IsDigits t := ⟨_, rfl⟩
  rw [← hdg] at HD HBAD
  cases dg
  case false =>
    have hp := HBAD.out (Or.inl rfl)
    rw [hp]
    clear HBAD HOV HEND hp hdg
    go_enter Try.func178, Try.ntmps178
    go_wp2_with fail
    refine (HD.out _).mono ?_
    rintro e w1 ⟨rfl, rfl⟩
    go_wp2_with fail
    go_ret2
    exact ⟨rfl, Below.refl _ _⟩
  case true =>
  by_cases h19 : 19 < t.length
  case pos =>
    have hp := HBAD.out (Or.inr h19)
    rw [hp]
    clear HBAD HOV HEND hp hdg
    go_enter Try.func178, Try.ntmps178
    go_wp2_with fail
    refine (HD.out _).mono ?_
    rintro e w1 ⟨rfl, rfl⟩
    go_wp2_with fail
    go_ret2
    exact ⟨rfl, Below.refl _ _⟩
  case neg =>
  have HDG := Lib.hid (fun i (hi : i < t.length) => isDigits_at hdg.symm hi)
  have HSU := Lib.hid (fun i (hi : i < t.length) => dval_succ t i hi)
  have HDR := Lib.hid (show M.dval (t.take t.length) = M.dval t by rw [List.take_length])
  have HSF := Lib.hid (fun n W h0 h1 => spec_FormatInt_c n W h0 h1)
  clear HBAD hdg
  go_enter Try.func178, Try.ntmps178
  go_wp2_with fail
  refine (HD.out _).mono ?_
  rintro e w1 ⟨rfl, rfl⟩
  go_wp2_with fail
  go_loopw [6, 7] (fun a z wr => ∃ i : Nat, i ≤ t.length ∧ z = .int .i64 i ∧ a = .int .i64 (-(M.dval (t.take i) : Int)) ∧ M.dval (t.take i) ≤ 9223372036854775808 ∧ Below w.heap.size w wr) (fun _ z _ => t.length - (intOf z).toNat)
  case atStart => exact ⟨0, by omega, rfl, rfl, by simp [M.dval, M.dvalFrom], Below.refl _ _⟩
  case round =>
    obtain ⟨i, hi, rfl, rfl, hv, hb⟩ := hrel
    have HB := Lib.hid hb
    clear hb
    by_cases hlt : i < t.length
    case pos =>
      have hd := HDG.out i hlt
      have HS := Lib.hid (HSU.out i hlt)
      have HOVI := Lib.hid (HOV.out (i + 1))
      rw [HS.out] at HOVI
      obtain ⟨d, hdd⟩ : ∃ d, d = t[i].toNat - 48 := ⟨_, rfl⟩
      rw [← hdd] at HOVI HS
      have hti : t[i].toNat = 48 + d := by omega
      have hd9 : d ≤ 9 := by omega
      have hci : ((t[i].toNat : Nat) : Int) = 48 + (d : Int) := by omega
      have hq : Int.tdiv (-9223372036854775808 + (d : Int)) 10 = -(((9223372036854775808 - d) / 10 : Nat) : Int) := by
        have h1 : (-9223372036854775808 + (d : Int)) = -(((9223372036854775808 - d : Nat)) : Int) := by omega
        rw [h1]
        exact tdiv10 _
      have hcmp : ((9223372036854775808 - d) / 10 : Nat) < M.dval (t.take i) ↔ 9223372036854775808 < M.dval (t.take i) * 10 + d := by omega
      generalize M.dval (t.take i) = v at *
      obtain ⟨q, hqq⟩ : ∃ q, q = (9223372036854775808 - d) / 10 := ⟨_, rfl⟩
      rw [← hqq] at hq hcmp
      have hq0 : q ≤ 922337203685477580 := by omega
      have h48 : (48 : Int) + (d : Int) - 48 = (d : Int) := by omega
      clear hqq hdd hd hti
      by_cases hov : q < v
      case pos =>
        have HP := Lib.hid (HOVI.out (hcmp.1 hov))
        have hov' : -(v : Int) < -(q : Int) := by omega
        clear HOV HEND hcmp
        go_wp2_with fail
        go_ret2
        exact ⟨by rw [HP.out]; rfl, HB.out⟩
      case neg =>
        have hov' : ¬ -(v : Int) < -(q : Int) := by omega
        have hle : v * 10 + d ≤ 9223372036854775808 := by omega
        clear HOV HEND hcmp
        go_wp2_with fail
        go_roundw
        case rel => exact ⟨i + 1, by omega, by go_num, by rw [HS.out]; congr 1; omega, by rw [HS.out]; exact hle, HB.out⟩
        case measure => simp [intOf] <;> omega
    case neg =>
      obtain rfl : i = t.length := by omega
      have HVD := Lib.hid HDR.out
      rw [HDR.out] at hv ⊢
      generalize hvv : M.dval t = v at *
      have HE := Lib.hid (HEND.out (-(v : Int)) ⟨by omega, by omega⟩ (by simp))
      have HF := Lib.hid (fun W => HSF.out (-(v : Int)) W (by omega) (by omega))
      clear HOV HEND HSF hvv
      generalize Lib.itoa (-(v : Int)) = f at *
      by_cases hf0 : f = (45 :: t)
      case pos =>
        have hp := HE.out
        rw [if_pos hf0] at hp
        have HP := Lib.hid hp
        subst hf0
        clear hp HE
        go_wp2_with fail
        refine (HF.out _).mono ?_
        rintro e w2 ⟨rfl, hb⟩
        go_wp2_with fail
        go_ret2
        exact ⟨by rw [HP.out]; rfl, HB.out.trans (hb.mono HB.out.size)⟩
      case neg =>
        have hp := HE.out
        rw [if_neg hf0] at hp
        have HP := Lib.hid hp
        have hf1 : (f == (45 :: t)) = false := by simpa using hf0
        clear hp HE
        go_wp2_with fail
        refine (HF.out _).mono ?_
        rintro e w2 ⟨rfl, hb⟩
        go_wp2_with fail
        go_ret2
        exact ⟨by rw [HP.out]; rfl, HB.out.trans (hb.mono HB.out.size)⟩

set_option maxRecDepth 100000 in
set_option maxHeartbeats 2000000 in
theorem spec_ParseInt_pos (t : List UInt8) (w : World) (hl : t.length ≤ 1048576) (hh : t.head? ≠ some 45) :
    Calls Try.prog 178 #[.string ⟨t.toArray⟩] w fun e w' => e = .returned (.tuple #[.int .i64 (M.parseInt t).1, .bool (M.parseInt t).2]) ∧ Below w.heap.size w w' := by
  have HBAD := Lib.hid (fun h => pi_bad (sg := false) (t := t) (fun _ => hh) h)
  have HOV := Lib.hid (fun i h => pi_over (sg := false) (t := t) (fun _ => hh) (i := i) h)
  have HEND := Lib.hid (fun n hi h => pi_end (sg := false) (t := t) (fun _ => hh) (n := n) hi h)
  have HEDGE := Lib.hid (fun h => pi_edge (t := t) hh h)
  have e1 : M.signed false t = t := rfl
  rw [e1] at HBAD HOV HEND HEDGE
  have HD := Lib.hid (fun W => spec_IsDigits_c t W (by omega))
  have hfirst : ∀ h : 0 < t.length, ¬ (t[0].toNat : Int) = 45 := fun h e => hh (by
    have h2 : t[0] = 45 := UInt8.toNat_inj.1 (by have e3 : (45 : UInt8).toNat = 45 := rfl
                                                 omega)
    rw [List.head?_eq_getElem?, List.getElem?_eq_getElem h, h2])
  by_cases hne : 0 < t.length
  case neg =>
    have ht0 : t = [] := by cases t with
      | nil => rfl
      | cons a r => simp at hne
    subst ht0
    have hp : M.parseInt [] = (0, false) := HBAD.out (Or.inl rfl)
    rw [hp]
    have hid : M.IsDigits [] = false := rfl
    rw [hid] at HD
    clear HBAD HOV HEND HEDGE hfirst e1 hp hid
    go_enter Try.func178, Try.ntmps178
    go_wp2_with fail
    refine (HD.out _).mono ?_
    rintro e w1 ⟨rfl, rfl⟩
    go_wp2_with fail
    go_ret2
    exact ⟨rfl, Below.refl _ _⟩
  case pos =>
  have hf := hfirst hne
  clear hfirst hh
  clear e1
  obtain ⟨dg, hdg⟩ : ∃ dg, dg = M.IsDigits t := ⟨_, rfl⟩
  rw [← hdg] at HD HBAD
  cases dg
  case false =>
    have hp := HBAD.out (Or.inl rfl)
    rw [hp]
    clear HBAD HOV HEND HEDGE hp hdg
    go_enter Try.func178, Try.ntmps178
    go_wp2_with fail
    refine (HD.out _).mono ?_
    rintro e w1 ⟨rfl, rfl⟩
    go_wp2_with fail
    go_ret2
    exact ⟨rfl, Below.refl _ _⟩
  case true =>
  by_cases h19 : 19 < t.length
  case pos =>
    have hp := HBAD.out (Or.inr h19)
    rw [hp]
    clear HBAD HOV HEND HEDGE hp hdg
    go_enter Try.func178, Try.ntmps178
    go_wp2_with fail
    refine (HD.out _).mono ?_
    rintro e w1 ⟨rfl, rfl⟩
    go_wp2_with fail
    go_ret2
    exact ⟨rfl, Below.refl _ _⟩
  case neg =>
  have HDG := Lib.hid (fun i (hi : i < t.length) => isDigits_at hdg.symm hi)
  have HSU := Lib.hid (fun i (hi : i < t.length) => dval_succ t i hi)
  have HDR := Lib.hid (show M.dval (t.take t.length) = M.dval t by rw [List.take_length])
  have HSF := Lib.hid (fun n W h0 h1 => spec_FormatInt_c n W h0 h1)
  clear HBAD hdg
  go_enter Try.func178, Try.ntmps178
  go_wp2_with fail
  refine (HD.out _).mono ?_
  rintro e w1 ⟨rfl, rfl⟩
  go_wp2_with fail
  go_loopw [6, 7] (fun a z wr => ∃ i : Nat, i ≤ t.length ∧ z = .int .i64 i ∧ a = .int .i64 (-(M.dval (t.take i) : Int)) ∧ M.dval (t.take i) ≤ 9223372036854775808 ∧ Below w.heap.size w wr) (fun _ z _ => t.length - (intOf z).toNat)
  case atStart => exact ⟨0, by omega, rfl, rfl, by simp [M.dval, M.dvalFrom], Below.refl _ _⟩
  case round =>
    obtain ⟨i, hi, rfl, rfl, hv, hb⟩ := hrel
    have HB := Lib.hid hb
    clear hb
    by_cases hlt : i < t.length
    case pos =>
      have hd := HDG.out i hlt
      have HS := Lib.hid (HSU.out i hlt)
      have HOVI := Lib.hid (HOV.out (i + 1))
      rw [HS.out] at HOVI
      obtain ⟨d, hdd⟩ : ∃ d, d = t[i].toNat - 48 := ⟨_, rfl⟩
      rw [← hdd] at HOVI HS
      have hti : t[i].toNat = 48 + d := by omega
      have hd9 : d ≤ 9 := by omega
      have hci : ((t[i].toNat : Nat) : Int) = 48 + (d : Int) := by omega
      have hq : Int.tdiv (-9223372036854775808 + (d : Int)) 10 = -(((9223372036854775808 - d) / 10 : Nat) : Int) := by
        have h1 : (-9223372036854775808 + (d : Int)) = -(((9223372036854775808 - d : Nat)) : Int) := by omega
        rw [h1]
        exact tdiv10 _
      have hcmp : ((9223372036854775808 - d) / 10 : Nat) < M.dval (t.take i) ↔ 9223372036854775808 < M.dval (t.take i) * 10 + d := by omega
      generalize M.dval (t.take i) = v at *
      obtain ⟨q, hqq⟩ : ∃ q, q = (9223372036854775808 - d) / 10 := ⟨_, rfl⟩
      rw [← hqq] at hq hcmp
      have hq0 : q ≤ 922337203685477580 := by omega
      have h48 : (48 : Int) + (d : Int) - 48 = (d : Int) := by omega
      clear hqq hdd hd hti
      by_cases hov : q < v
      case pos =>
        have HP := Lib.hid (HOVI.out (hcmp.1 hov))
        have hov' : -(v : Int) < -(q : Int) := by omega
        clear HOV HEND hcmp
        go_wp2_with fail
        go_ret2
        exact ⟨by rw [HP.out]; rfl, HB.out⟩
      case neg =>
        have hov' : ¬ -(v : Int) < -(q : Int) := by omega
        have hle : v * 10 + d ≤ 9223372036854775808 := by omega
        clear HOV HEND hcmp
        go_wp2_with fail
        go_roundw
        case rel => exact ⟨i + 1, by omega, by go_num, by rw [HS.out]; congr 1; omega, by rw [HS.out]; exact hle, HB.out⟩
        case measure => simp [intOf] <;> omega
    case neg =>
      obtain rfl : i = t.length := by omega
      have HVD := Lib.hid HDR.out
      rw [HDR.out] at hv ⊢
      generalize hvv : M.dval t = v at *
      by_cases hedge : v = 9223372036854775808
      case pos =>
        have HP := Lib.hid (HEDGE.out hedge)
        have hedge' : -(v : Int) = -9223372036854775808 := by omega
        clear HOV HEND HSF HEDGE hvv
        go_wp2_with fail
        go_ret2
        exact ⟨by rw [HP.out]; rfl, HB.out⟩
      case neg =>
      have hedge' : ¬ -(v : Int) = -9223372036854775808 := by omega
      have HE := Lib.hid (HEND.out (v : Int) ⟨by omega, by omega⟩ (by simp))
      have HF := Lib.hid (fun W => HSF.out (v : Int) W (by omega) (by omega))
      clear HOV HEND HSF HEDGE hvv
      generalize Lib.itoa (v : Int) = f at *
      by_cases hf0 : f = t
      case pos =>
        have hp := HE.out
        rw [if_pos hf0] at hp
        have HP := Lib.hid hp
        subst hf0
        clear hp HE
        go_wp2_with fail
        refine (HF.out _).mono ?_
        rintro e w2 ⟨rfl, hb⟩
        go_wp2_with fail
        go_ret2
        exact ⟨by rw [HP.out]; rfl, HB.out.trans (hb.mono HB.out.size)⟩
      case neg =>
        have hp := HE.out
        rw [if_neg hf0] at hp
        have HP := Lib.hid hp
        have hf1 : (f == t) = false := by simpa using hf0
        clear hp HE
        go_wp2_with fail
        refine (HF.out _).mono ?_
        rintro e w2 ⟨rfl, hb⟩
        go_wp2_with fail
        go_ret2
        exact ⟨by rw [HP.out]; rfl, HB.out.trans (hb.mono HB.out.size)⟩

theorem spec_ParseInt_c (l : List UInt8) (w : World) (hl : l.length ≤ 1048576) :
    Calls Try.prog 178 #[.string ⟨l.toArray⟩] w fun e w' => e = .returned (.tuple #[.int .i64 (M.parseInt l).1, .bool (M.parseInt l).2]) ∧ Below w.heap.size w w' := by
  by_cases h : l.head? = some 45
  · cases l with
    | nil => cases h
    | cons c t =>
      obtain rfl : c = 45 := by simpa using h
      exact spec_ParseInt_neg t w (by simp at hl; omega)
  · exact spec_ParseInt_pos l w hl h
end Go.Proofs.Ytlohpphmamapeaa
/-
  Contracts of SplitLines and of strings.Split at one byte.
  Conditions: at most 2^20 bytes; the global MaxLen holds an int.
-/
namespace Go.Proofs.Ytlohpphmamapeaa
open Go.RowKit
set_option linter.unusedVariables false
set_option linter.unusedSimpArgs false

/-- strings.Split at one byte cuts as SplitAny. -/
theorem splitK_any (c : UInt8) : ∀ (n : Nat) (s : List UInt8), s.length ≤ n → Lib.splitK [c] 0 (Lib.count s [c]) s = M.SplitAny s [c]
  | n, s, hn => by
    by_cases hc : c ∈ s
    · obtain ⟨a, b, rfl, ha⟩ := List.eq_append_cons_of_mem hc
      have hix : Lib.index (a ++ c :: b) [c] = ((a.length : Nat) : Int) := by rw [Lib.index_one, indexByte_at ha]
      have hd : (a ++ c :: b).drop (a.length + 1) = b := by rw [← List.drop_drop, List.drop_left]; rfl
      rw [Lib.count_hit (by simp) hix, show ([c] : List UInt8).length = 1 from rfl, hd, Nat.add_comm, Lib.splitK, if_neg (by rw [hix]; simp), hix, split_at ha]
      have ht : (a ++ c :: b).take ((a.length : Int).toNat + 0) = a := by simp
      have hd' : (a ++ c :: b).drop ((a.length : Int).toNat + ([c] : List UInt8).length) = b := by rw [Int.toNat_natCast]; exact hd
      rw [ht, hd']
      cases n with
      | zero => simp at hn
      | succ n => rw [splitK_any c n b (by simp at hn; omega)]
    · have hix : Lib.index s [c] = -1 := by rw [Lib.index_one, indexByte_no hc]
      rw [Lib.count_miss hix, split_none hc]
      rfl


theorem Own.take {w : World} {base size n m : Nat} {A : Option Addr} {xs : List Value} (h : Own w base size A n xs) (hm : m ≤ n) : Own w base size A m (xs.take (m * size)) := by
  have hle := Nat.mul_le_mul_right size hm
  refine ⟨by rw [List.length_take, h.1]; omega, fun hp => ?_⟩
  obtain ⟨g, o, cur, E, hA, hb, hg, hl, ht⟩ := h.2 (by omega)
  exact ⟨g, o, cur, E, hA, hb, hg, by omega, by rw [← ht, List.take_take, Nat.min_eq_left hle]⟩
def M.SplitLines (s : List UInt8) : List (List UInt8) := if (M.SplitAny s [10]).getLast? = some [] then (M.SplitAny s [10]).dropLast else M.SplitAny s [10]
theorem splitLines_len (s : List UInt8) : (M.SplitLines s).length ≤ s.length + 1 := by
  unfold M.SplitLines
  have := M.SplitAny_len s [10]
  split
  · rw [List.length_dropLast]; omega
  · exact this
theorem splitLines_yes {s : List UInt8} {n : Nat} (hn : (M.SplitAny s [10]).length = n + 1) (h : (M.SplitAny s [10])[n]? = some []) : M.SplitLines s = (M.SplitAny s [10]).take n := by
  have hne : M.SplitAny s [10] ≠ [] := fun e => by rw [e] at hn; simp at hn
  unfold M.SplitLines
  rw [if_pos, List.dropLast_eq_take, hn, Nat.add_sub_cancel]
  rw [List.getLast?_eq_getElem?, hn, Nat.add_sub_cancel, h]
theorem splitLines_no {s : List UInt8} {n : Nat} (hn : (M.SplitAny s [10]).length = n + 1) (h : (M.SplitAny s [10])[n]? ≠ some []) : M.SplitLines s = M.SplitAny s [10] := by
  unfold M.SplitLines
  rw [if_neg]
  rw [List.getLast?_eq_getElem?, hn, Nat.add_sub_cancel]
  exact h
theorem split_ne (s by_ : List UInt8) : ∃ n, (M.SplitAny s by_).length = n + 1 := ⟨_, by unfold M.SplitAny; rw [List.length_append]; rfl⟩
theorem own_cap {w : World} {base size n c : Nat} {e : TypeId} {A : Option Addr} {xs : List Value} (h : w.ownsRow base e size (.slice A n c) n xs) (hn : 0 < n) : n ≤ c ∧ c ≤ maxLen := by
  rcases h.2 with ⟨_, h0⟩ | ⟨g, cap, cur, hv, hb, hg, hnc, hm, hcs, ht⟩
  · omega
  · injection hv with hA hn' hc
    subst hc
    exact ⟨hnc, hm⟩
theorem strs_take (zs : List (List UInt8)) (n : Nat) : (strs zs).take (n * 1) = strs (zs.take n) := by simp [strs, List.map_take]
end Go.Proofs.Ytlohpphmamapeaa
/-
  Appends whose row is known, in whatever world: as a step of a walk, and as a step of a region.
  Conditions: none; this text names no law.
-/
namespace Go.Proofs.Ytlohpphmamapeaa
open Go.RowKit
set_option linter.unusedVariables false

section
variable {P : Program} {ops : Array Oper} {rest : List Oper} {o : Oper} {a : Act} {Q : Exit → Act → World → Prop} {w W : World}
theorem push_law_h (hgd : o.guard = none) (s x : Operand) {t : TypeId} (ho : o.op = .call { callee := .builtin .append, args := #[s, x], argTypes := #[t, t] }) {e : TypeId} {size : Nat} (T : SlT P t e size)
    {base : Nat} {A : Option Addr} {n c : Nat} {xs : List Value} (hs : a.eval s = .slice A n c) (hown : W.ownsRow base e size (.slice A n c) n xs) {us : List Value} {g : Nat} (hx : a.eval x = .slice (some ⟨g, 0, none⟩) 1 1)
    (hus : us.length = size) (h1 : ∀ u ∈ us, u.oneCell' = true) (hblk : W.heap[g]? = some (.cells us.toArray e (0, 0))) (hbw : base ≤ W.heap.size) (hn : n < 1099511627776)
    (h : ∀ A' c' w', w'.ownsRow base e size (.slice A' (n + 1) c') (n + 1) (xs ++ us) → W.grownBy w' (Value.slice A n c).ownBlock → wpList P ops Q rest (a.put o.dst (.slice A' (n + 1) c')) w') : wpList P ops Q (o :: rest) a W := by
  obtain ⟨i, z, hi, hz, hsz, hby, hzs⟩ := T.info
  refine wpList_append_own W hgd s x t ho base e i z size i.bytes T.und hi hz hsz rfl hzs T.pos (.slice A n c) n xs hs hown ⟨g, 0, none⟩ 1 1 us hx (by simpa using hus) (fun j u hu => ?_) h1 (by simp only [maxLen]; omega) ?_ hbw ?_
  · have ha : (⟨g, 0, none⟩ : Addr).add j = ⟨g, j, none⟩ := by unfold Addr.add; split <;> simp_all
    rw [ha, cell_of_row W g j us.toArray e (0, 0) hblk]
    simpa using hu
  · have : (n + 1) * i.bytes ≤ 1099511627776 * 64 := Nat.mul_le_mul (by omega) hby
    omega
  · intro v' w' hown' hg _
    obtain ⟨A', c', rfl⟩ := own_slice hown'
    exact h A' c' w' hown' hg
theorem step_push_h {K : Act → World → Prop} {E : Prop} (hgd : o.guard = none) (s x : Operand) {t : TypeId} (ho : o.op = .call { callee := .builtin .append, args := #[s, x], argTypes := #[t, t] }) {e : TypeId} {size : Nat} (T : SlT P t e size)
    {base : Nat} {A : Option Addr} {n c : Nat} {xs : List Value} (hs : a.eval s = .slice A n c) (hown : W.ownsRow base e size (.slice A n c) n xs) {us : List Value} {g : Nat} (hx : a.eval x = .slice (some ⟨g, 0, none⟩) 1 1)
    (hus : us.length = size) (h1 : ∀ u ∈ us, u.oneCell' = true) (hblk : W.heap[g]? = some (.cells us.toArray e (0, 0))) (hbw : base ≤ W.heap.size) (hn : n < 1099511627776)
    (h : ∀ A' c' w', w'.ownsRow base e size (.slice A' (n + 1) c') (n + 1) (xs ++ us) → W.grownBy w' (Value.slice A n c).ownBlock → K (a.put o.dst (.slice A' (n + 1) c')) w') :
    if Region.wanted o (yielded ops a.tmps) = true then Oper.wp P o a W K Q else E := by
  obtain ⟨i, z, hi, hz, hsz, hby, hzs⟩ := T.info
  have hw : Region.wanted o (yielded ops a.tmps) = true := by simp [Region.wanted, hgd]
  rw [if_pos hw]
  refine wp_append_own W s x t ho base e i z size i.bytes T.und hi hz hsz rfl hzs T.pos (.slice A n c) n xs hs hown ⟨g, 0, none⟩ 1 1 us hx (by simpa using hus) (fun j u hu => ?_) h1 (by simp only [maxLen]; omega) ?_ hbw ?_
  · have ha : (⟨g, 0, none⟩ : Addr).add j = ⟨g, j, none⟩ := by unfold Addr.add; split <;> simp_all
    rw [ha, cell_of_row W g j us.toArray e (0, 0) hblk]
    simpa using hu
  · have : (n + 1) * i.bytes ≤ 1099511627776 * 64 := Nat.mul_le_mul (by omega) hby
    omega
  · intro v' w' hown' hg _
    obtain ⟨A', c', rfl⟩ := own_slice hown'
    exact h A' c' w' hown' hg
end
end Go.Proofs.Ytlohpphmamapeaa
/-
  Contracts of ParseSystem.
  Conditions: at most 2^20 bytes; the listed variables read as their initialisers lay them.
-/
namespace Go.Proofs.Ytlohpphmamapeaa
open Go.RowKit
set_option linter.unusedVariables false
set_option linter.unusedSimpArgs false

/-- The walk's state: the new system's box g, its number, its row of rules; what lay below g stands. -/
def PsQ (ws wr : World) (g : Nat) (k : Int) (V : Value) (n : Nat) (xs : List Value) : Prop :=
  Below g ws wr ∧ wr.cell? ⟨g, 0, none⟩ = some (.int .i64 k) ∧ wr.cell? ⟨g, 1, none⟩ = some V ∧ wr.frozen? ⟨g, 1, none⟩ = false ∧ wr.ownsRow (g + 1) 84 2 V n xs ∧ g + 1 ≤ wr.heap.size
section
variable {ws wr w' : World} {g n : Nat} {k : Int} {V V' : Value} {xs ys : List Value}
theorem PsQ.below (h : PsQ ws wr g k V n xs) (hb : Below wr.heap.size wr w') : PsQ ws w' g k V n xs := by
  obtain ⟨h1, h2, h3, h4, h5, h6⟩ := h
  exact ⟨h1.trans (hb.mono (by omega)), cellKeep hb h2, cellKeep hb h3, ((bcell hb).2 _ _ (by omega)).trans h4, own_below h5 hb, Nat.le_trans h6 hb.size⟩
theorem PsQ.bel (h : PsQ ws wr g k V n xs) : Below g ws wr := h.1
theorem PsQ.o0 (h : PsQ ws wr g k V n xs) : wr.cell? ⟨g, 0, none⟩ = some (.int .i64 k) := h.2.1
theorem PsQ.o1 (h : PsQ ws wr g k V n xs) : wr.cell? ⟨g, 1, none⟩ = some V := h.2.2.1
theorem PsQ.own (h : PsQ ws wr g k V n xs) : wr.ownsRow (g + 1) 84 2 V n xs := h.2.2.2.2.1
theorem PsQ.base (h : PsQ ws wr g k V n xs) : g + 1 ≤ wr.heap.size := h.2.2.2.2.2
theorem PsQ.grown (h : PsQ ws wr g k V n xs) (hg : wr.grownBy w' V.ownBlock) : Below (g + 1) wr w' := (Below.refl (g + 1) wr).grown hg h.base (fun _ hk => (h.own.lt _ hk).1)
theorem PsQ.o1g (h : PsQ ws wr g k V n xs) (hg : wr.grownBy w' V.ownBlock) : w'.cell? ⟨g, 1, none⟩ = some V := cellBelow (h.grown hg) (by omega) h.o1
theorem PsQ.fog (h : PsQ ws wr g k V n xs) (hg : wr.grownBy w' V.ownBlock) : w'.frozen? ⟨g, 1, none⟩ = false := ((h.grown hg).frozen (p := ⟨g, 1, none⟩) (by simp)).trans h.2.2.2.1
theorem PsQ.push (h : PsQ ws wr g k V n xs) (hg : wr.grownBy w' V.ownBlock) {m : Nat} (ho : w'.ownsRow (g + 1) 84 2 V' m ys) : PsQ ws (w'.setCell ⟨g, 1, none⟩ V') g k V' m ys := by
  have hb := h.grown hg
  obtain ⟨h1, h2, h3, h4, h5, h6⟩ := h
  refine ⟨(h1.trans (hb.mono (by omega))).setCell (by simp) V', (cell_set_ne _ (Or.inr (by decide))).trans (cellBelow hb (by omega) h2), cell_set_eq _ (cellBelow hb (by omega) h3), ?_, ownsRow_setCell_below ho (by simp) V', by have := hb.size; simp; omega⟩
  rw [World.frozen?_setCell]
  exact (hb.frozen (p := ⟨g, 1, none⟩) (by simp)).trans h4
end
theorem heap_alloc_new2 (w : World) (o : Obj) (us : Array Value) (e : TypeId) : ((w.alloc o).alloc (.cells us e)).heap[w.heap.size + 1]? = some (.cells us e (0, 0)) := by
  have h := heap_alloc_new (w.alloc o) (.cells us e)
  rwa [show (w.alloc o).heap.size = w.heap.size + 1 by simp] at h

set_option maxRecDepth 100000 in
set_option maxHeartbeats 4000000 in
theorem spec_ParseSystem_c (l : List UInt8) (w : World) (hl : l.length ≤ 1048576) :
    Calls Try.prog 156 #[.string ⟨l.toArray⟩] w (RetSys (M.psK l) (M.psQ l) (M.psB l) w) := by
  obtain ⟨n, hn⟩ := split_ne l [32]
  have hlen := M.SplitAny_len l [32]
  have HSA := Lib.hid (fun W => spec_SplitAny_c l [32] W hl (by simp))
  have HMEM := Lib.hid (fun x (hx : x ∈ M.SplitAny l [32]) => split_mem hx)
  have HHD := Lib.hid (fun x h => ps_head (l := l) (x := x) h)
  have HFI := Lib.hid (fun i x h h2 => ps_fine (l := l) i x h h2)
  have HB3 := Lib.hid (fun h => ps_bad3 (l := l) h)
  have HB4 := Lib.hid (fun h => ps_bad4 (l := l) h)
  have HOK := Lib.hid (fun h hf => ps_ok (l := l) h hf)
  have HRL := psR_len hn
  have HRS := Lib.hid (psR_sides l)
  have HSU := Lib.hid (fun i x h => psR_next (l := l) i x h)
  rw [hn] at HSA
  generalize M.SplitAny l [32] = zs at *
  have HALL := Lib.hid (show (M.psR l).take n = M.psR l by rw [← HRL]; exact List.take_length)
  have HRLH := Lib.hid HRL
  have HRO := Lib.hid (fun k (hk : k = M.psN l) A c W h => spec_RulesOk_c k A c (M.psR l) W h (by omega) HRS.out)
  rw [HRL] at HRO
  have HFS := Lib.hid (fun k (hk : k = M.psN l) A c W h => spec_FormatSystem_c k A c (M.psR l) W h (by omega) HRS.out)
  rw [HRL] at HFS
  have HZL := Lib.hid hn
  have hn1 : n ≤ 1048576 := by omega
  clear HRL hn
  go_enter Try.func156, Try.ntmps156
  go_wp2_with fail
  refine (HSA.out _).mono ?_
  rintro e w1 ⟨A, c, rfl, hown, hb⟩
  have s1 : w.heap.size + 1 ≤ w1.heap.size := by have := hb.size; simp at this; omega
  have r0 : w1.cell? ⟨w.heap.size, 0, none⟩ = some (.int .i64 0) := cellKeep hb (by simp [go_sem])
  have r1 : w1.cell? ⟨w.heap.size, 1, none⟩ = some (.slice none 0 0) := cellKeep hb (by simp [go_sem])
  have f0 : w1.frozen? ⟨w.heap.size, 0, none⟩ = false := ((bcell hb).2 _ _ (by simp)).trans (by simp [go_sem])
  have f1 : w1.frozen? ⟨w.heap.size, 1, none⟩ = false := ((bcell hb).2 _ _ (by simp)).trans (by simp [go_sem])
  have T1 := Lib.hid (below_alloc1 hb)
  obtain ⟨⟨b, rfl⟩, hcd⟩ := own_someF hown (by omega)
  obtain ⟨_, hcm⟩ := own_cap hown (by omega)
  have HRD := Lib.hid (Rd.of_own hown)
  clear hown hb
  have HZ := Lib.hid (show ∀ i x, zs[i]? = some x → w1.cell? ⟨b, i, none⟩ = some (.string ⟨x.toArray⟩) from fun i x hx => by
    obtain ⟨hi, rfl⟩ := List.getElem?_eq_some_iff.1 hx
    obtain ⟨b', o', e1, hz, hc⟩ := HRD.out.strAt (k := i) (by have := HZL.out; omega)
    injection e1 with e1
    injection e1 with e1 e2
    subst e1
    subst e2
    simpa using hc)
  have hbw1 : b < w1.heap.size := HRD.out.lt (by decide) (by omega) rfl
  clear HRD
  obtain ⟨z0, hz0⟩ : ∃ z0, zs[0]? = some z0 := ⟨_, List.getElem?_eq_getElem (by have := HZL.out; omega)⟩
  have hc0 := HZ.out 0 z0 hz0
  have hz0l := HMEM.out z0 (List.mem_of_getElem? hz0)
  obtain ⟨hpn, hpb⟩ := HHD.out z0 hz0
  have HPB := Lib.hid hpb
  have HPI := Lib.hid (fun W => spec_ParseInt_c z0 W (by omega))
  generalize M.parseInt z0 = x at *
  obtain ⟨v, ok⟩ := x
  simp only at HPI hpn HPB
  have HPN := Lib.hid hpn
  clear hpn hpb hz0
  go_wp2_with fail
  refine (HPI.out _).mono ?_
  rintro e w2 ⟨rfl, hb⟩
  have s2 := hb.size
  replace r0 : w2.cell? ⟨w.heap.size, 0, none⟩ = some (.int .i64 0) := cellKeep hb r0
  replace r1 : w2.cell? ⟨w.heap.size, 1, none⟩ = some (.slice none 0 0) := cellKeep hb r1
  replace f0 : w2.frozen? ⟨w.heap.size, 0, none⟩ = false := ((bcell hb).2 _ _ (by omega)).trans f0
  replace f1 : w2.frozen? ⟨w.heap.size, 1, none⟩ = false := ((bcell hb).2 _ _ (by omega)).trans f1
  have T2 := Lib.hid (T1.out.trans (hb.mono T1.out.size))
  have HZ2 := Lib.hid (fun i x hx => cellKeep hb (HZ.out i x hx))
  clear hb hc0 HZ
  cases ok
  case false =>
    have hno := HPB.out rfl
    go_wp2_with fail
    refine bodyPost_ret (v := .tuple #[.agg #[.int .i64 0, .slice none 0 0], .bool false]) ?_ rfl (retPs_no hno ?_)
    · simp [results, Try.results156, go_sem, cell_set_ne, cell_set_eq _ r0, cell_two' r1]
    · exact (T2.out.setCell (by simp) _).setCell (by simp) _
  case true =>
  have HSZ := Lib.hid (show ∀ o : Obj, (w2.alloc o).heap.size = w2.heap.size + 1 from fun o => by simp)
  have HQ0 := Lib.hid (show PsQ (w2.alloc (.cells #[.int .i64 v, .slice none 0 0] 28)) (w2.alloc (.cells #[.int .i64 v, .slice none 0 0] 28)) w2.heap.size v (.slice none 0 0) 0 (ruls ((M.psR l).take 0)) from
    ⟨Below.refl _ _, by simp [go_sem], by simp [go_sem], by simp [go_sem], World.ownsRow_nil _ _ _ _, by simp⟩)
  have T3 := Lib.hid (T2.out.alloc T2.out.size (.cells #[.int .i64 v, .slice none 0 0] 28))
  have HZ3 := Lib.hid (fun i x hx => allocKeep1 (HZ2.out i x hx) (.cells #[.int .i64 v, .slice none 0 0] 28))
  have R0 := Lib.hid (allocKeep1 r0 (.cells #[.int .i64 v, .slice none 0 0] 28))
  have R1 := Lib.hid (allocKeep1 r1 (.cells #[.int .i64 v, .slice none 0 0] 28))
  have F0 := Lib.hid (((bcell ((Below.refl w2.heap.size w2).alloc (Nat.le_refl _) (.cells #[.int .i64 v, .slice none 0 0] 28))).2 _ _ (by omega)).trans f0)
  have F1 := Lib.hid (((bcell ((Below.refl w2.heap.size w2).alloc (Nat.le_refl _) (.cells #[.int .i64 v, .slice none 0 0] 28))).2 _ _ (by omega)).trans f1)
  clear r0 r1 f0 f1 HZ2 T2 T1 HSA HPI HPB HHD
  go_wp2_with fail
  all_goals
    obtain ⟨g, hg⟩ : ∃ g, g = w2.heap.size := ⟨_, rfl⟩
    obtain ⟨ws, hws⟩ : ∃ ws : World, ws = w2.alloc (.cells #[.int .i64 v, .slice none 0 0] 28) := ⟨_, rfl⟩
    rw [← hws] at HQ0 T3 HZ3 R0 R1 F0 F1 ⊢
    rw [← hg] at HQ0 ⊢
    have hbg : b < g := by omega
    have hwg : w.heap.size < g := by omega
    clear HSZ hws hg s1 s2 hbw1
    go_loopw [29] (fun z wr => ∃ (i : Nat) (A' : Option Addr) (c' : Nat), i ≤ n ∧ z = .int .i64 i ∧ PsQ ws wr g v (.slice A' i c') i (ruls ((M.psR l).take i))) (fun z _ => n - (intOf z).toNat)
    case atStart => exact ⟨0, none, 0, by omega, rfl, HQ0.out⟩
    case round =>
      clear HQ0
      obtain ⟨i, A', c', hi, rfl, hq⟩ := hrel
      have HQ := Lib.hid hq
      clear hq
      by_cases hlt : i < n
      case pos =>
        first
        | (exfalso; omega)
        | skip
          obtain ⟨x, hx⟩ : ∃ x, zs[i + 1]? = some x := ⟨_, List.getElem?_eq_getElem (by have := HZL.out; omega)⟩
          have hcx : wr.cell? ⟨b, 1 + i, none⟩ = some (.string ⟨x.toArray⟩) := cellBelow HQ.out.bel hbg (by rw [Nat.add_comm]; exact HZ3.out (i + 1) x hx)
          have hxl := HMEM.out x (List.mem_of_getElem? hx)
          have HS := Lib.hid (HSU.out i x hx)
          have HPR := Lib.hid (fun W => spec_ParseRule_c x W (by omega))
          have HFX := Lib.hid (HFI.out i x hx)
          have hpf : M.psF x = (M.ParseRule x).1 := rfl
          rw [hpf] at HS
          clear hx hpf
          generalize M.ParseRule x = pr at *
          obtain ⟨⟨pl, pr⟩, ok2⟩ := pr
          simp only at HPR HS HFX
          go_wp2_with fail
          refine (HPR.out _).mono ?_
          rintro e w3 ⟨rfl, hb⟩
          have HQ3 := Lib.hid (HQ.out.below hb)
          clear hb hcx
          cases ok2
          case false =>
            have hno := HFX.out rfl
            have T4 := Lib.hid (fun o : Obj => (T3.out.trans (HQ3.out.bel.mono (Nat.le_of_lt hwg))).alloc (by have := HQ3.out.base; omega) o)
            have r0 := fun o => allocKeep1 (cellBelow HQ3.out.bel hwg R0.out) o
            have r1 := fun o => allocKeep1 (cellBelow HQ3.out.bel hwg R1.out) o
            have f0 : ∀ o, (w3.alloc o).frozen? ⟨w.heap.size, 0, none⟩ = false := fun o => ((bcell ((Below.refl w3.heap.size w3).alloc (Nat.le_refl _) o)).2 _ _ (by have := HQ3.out.base; omega)).trans ((HQ3.out.bel.frozen (p := ⟨w.heap.size, 0, none⟩) hwg).trans F0.out)
            have f1 : ∀ o, (w3.alloc o).frozen? ⟨w.heap.size, 1, none⟩ = false := fun o => ((bcell ((Below.refl w3.heap.size w3).alloc (Nat.le_refl _) o)).2 _ _ (by have := HQ3.out.base; omega)).trans ((HQ3.out.bel.frozen (p := ⟨w.heap.size, 1, none⟩) hwg).trans F1.out)
            go_wp2_with fail
            try simp only [Exit.inBlock, Exit.then]
            refine bodyPost_ret (v := .tuple #[.agg #[.int .i64 0, .slice none 0 0], .bool false]) ?_ rfl (retPs_no hno ?_)
            · simp [results, Try.results156, go_sem, cell_set_ne, cell_set_eq _ (r0 _), cell_two' (r1 _)]
            · exact ((T4.out _).setCell (by simp) _).setCell (by simp) _
          case true =>
          have HQA := Lib.hid (fun (o p : Obj) => HQ3.out.below (((Below.refl w3.heap.size w3).alloc (Nat.le_refl _) o).alloc (by simp) p))
          have o1 := fun o => allocKeep1 HQ3.out.o1 o
          go_wp2_with (at_builtin; refine push_law_h rfl _ _ rfl slRule rfl (HQA.out _ _).own (us := [.string ⟨pl.toArray⟩, .string ⟨pr.toArray⟩]) rfl rfl (by simp [Value.oneCell']) (heap_alloc_new2 _ _ _ _) (HQA.out _ _).base (by omega) ?_; intro A5 c5 w5 hown5 hg5; have o5 := (HQA.out _ _).o1g hg5; have f5 := (HQA.out _ _).fog hg5)
          go_roundw
          case rel => exact ⟨i + 1, A5, c5, by omega, by go_num, (HQA.out _ _).push hg5 (by rw [HS.out]; exact hown5)⟩
          case measure => simp [intOf] <;> omega
      case neg =>
        obtain rfl : i = n := by omega
        have T4 := Lib.hid (T3.out.trans (HQ.out.bel.mono (Nat.le_of_lt hwg)))
        have r0 := cellBelow HQ.out.bel hwg R0.out
        have r1 := cellBelow HQ.out.bel hwg R1.out
        have f0 := (HQ.out.bel.frozen (p := ⟨w.heap.size, 0, none⟩) hwg).trans F0.out
        have f1 := (HQ.out.bel.frozen (p := ⟨w.heap.size, 1, none⟩) hwg).trans F1.out
        have o0 := HQ.out.o0
        have o1 := HQ.out.o1
        have hbs := HQ.out.base
        have HOW := Lib.hid (show wr.ownsRow (g + 1) 84 2 (.slice A' i c') i (ruls (M.psR l)) by have h := HQ.out.own; rw [HALL.out] at h; exact h)
        have HRV := Lib.hid (HRO.out v HPN.out A' c')
        have HFV := Lib.hid (HFS.out v HPN.out A' c')
        obtain ⟨rk, hrk⟩ : ∃ rk, rk = M.RulesOk v (M.psR l) := ⟨_, rfl⟩
        obtain ⟨fs, hfs⟩ : ∃ fs, fs = M.FormatSystem v (M.psR l) := ⟨_, rfl⟩
        rw [← hrk] at HRV
        rw [← hfs] at HFV
        have HB3' := Lib.hid (fun h => HB3.out (by rw [← HPN.out]; exact h))
        have HB4' := Lib.hid (fun h => HB4.out (by rw [← HPN.out]; exact h))
        have HOK' := Lib.hid (fun h h2 => HOK.out (by rw [← HPN.out]; exact h) (by rw [← HPN.out]; exact h2))
        rw [← hrk, ← hfs] at HOK'
        rw [← hrk] at HB3'
        rw [← hfs] at HB4'
        clear hrk hfs HRO HFS HB3 HB4 HOK HQ
        go_wp2_with fail
        refine (HRV.out _ (Rd.of_own HOW.out)).mono ?_
        rintro e w4 ⟨rfl, hb⟩
        replace r0 : w4.cell? ⟨w.heap.size, 0, none⟩ = some (.int .i64 0) := cellKeep hb r0
        replace r1 : w4.cell? ⟨w.heap.size, 1, none⟩ = some (.slice none 0 0) := cellKeep hb r1
        replace f0 : w4.frozen? ⟨w.heap.size, 0, none⟩ = false := ((bcell hb).2 _ _ (by omega)).trans f0
        replace f1 : w4.frozen? ⟨w.heap.size, 1, none⟩ = false := ((bcell hb).2 _ _ (by omega)).trans f1
        replace o0 : w4.cell? ⟨g, 0, none⟩ = some (.int .i64 v) := cellKeep hb o0
        replace o1 : w4.cell? ⟨g, 1, none⟩ = some (.slice A' i c') := cellKeep hb o1
        replace HOW := Lib.hid (own_below HOW.out hb)
        replace T4 := Lib.hid (T4.out.trans (hb.mono T4.out.size))
        replace hbs := Nat.le_trans hbs hb.size
        clear hb
        cases rk
        case false =>
          have hno := HB3'.out rfl
          go_wp2_with fail
          try simp only [Exit.inBlock, Exit.then]
          refine bodyPost_ret (v := .tuple #[.agg #[.int .i64 0, .slice none 0 0], .bool false]) ?_ rfl (retPs_no hno ?_)
          · simp [results, Try.results156, go_sem, cell_set_ne, cell_set_eq _ r0, cell_two' r1]
          · exact (T4.out.setCell (by simp) _).setCell (by simp) _
        case true =>
        go_wp2_with fail
        refine (HFV.out _ (Rd.of_own HOW.out)).mono ?_
        rintro e w5 ⟨rfl, hb⟩
        replace r0 : w5.cell? ⟨w.heap.size, 0, none⟩ = some (.int .i64 0) := cellKeep hb r0
        replace r1 : w5.cell? ⟨w.heap.size, 1, none⟩ = some (.slice none 0 0) := cellKeep hb r1
        replace f0 : w5.frozen? ⟨w.heap.size, 0, none⟩ = false := ((bcell hb).2 _ _ (by omega)).trans f0
        replace f1 : w5.frozen? ⟨w.heap.size, 1, none⟩ = false := ((bcell hb).2 _ _ (by omega)).trans f1
        replace o0 : w5.cell? ⟨g, 0, none⟩ = some (.int .i64 v) := cellKeep hb o0
        replace o1 : w5.cell? ⟨g, 1, none⟩ = some (.slice A' i c') := cellKeep hb o1
        replace HOW := Lib.hid (own_below HOW.out hb)
        replace T4 := Lib.hid (T4.out.trans (hb.mono T4.out.size))
        replace hbs := Nat.le_trans hbs hb.size
        clear hb
        by_cases hfl : fs = l
        case neg =>
          have hno := HB4'.out hfl
          have hfe : (fs == l) = false := by simpa using hfl
          go_wp2_with fail
          try simp only [Exit.inBlock, Exit.then]
          refine bodyPost_ret (v := .tuple #[.agg #[.int .i64 0, .slice none 0 0], .bool false]) ?_ rfl (retPs_no hno ?_)
          · simp [results, Try.results156, go_sem, cell_set_ne, cell_set_eq _ r0, cell_two' r1]
          · exact (T4.out.setCell (by simp) _).setCell (by simp) _
        case pos =>
          have hyes := HOK'.out (by first | rfl | trivial) hfl
          have HY := Lib.hid hyes
          subst hfl
          clear hyes
          go_wp2_with fail
          try simp only [Exit.inBlock, Exit.then]
          refine bodyPost_ret (v := .tuple #[.agg #[.int .i64 v, .slice A' i c'], .bool true]) ?_ rfl (retPs_yes (rs := _) HY.out HPN.out rfl HRLH.out.symm ?_ ?_)
          · simp [results, Try.results156, go_sem, cell_set_ne, cell_set_eq _ r0, cell_two' r1]
          · exact (Own.of_row (ownsRow_setCell_below (ownsRow_setCell_below HOW.out (by simp; omega) _) (by simp; omega) _)).mono (by omega)
          · exact (T4.out.setCell (by simp) _).setCell (by simp) _



end Go.Proofs.Ytlohpphmamapeaa
/-
  The equations that the reference makes out of a code: StartWork takes them.
  Conditions: a code of at most 2^20 bytes.
-/
namespace Go.Proofs.Ytlohpphmamapeaa
open Go.RowKit
set_option linter.unusedVariables false
set_option linter.unusedSimpArgs false

theorem CurStep.below {b : Nat} {A : Option Addr} {n c : Nat} {bs : List UInt8} {w w1 w2 : World} (h : CurStep b A n c bs w w1) (hb : Below w1.heap.size w1 w2) : CurStep b A n c bs w w2 :=
  ⟨h.1.below hb, fun B w0 hB h0 => (h.2.1 B w0 hB h0).trans (hb.mono (by
    obtain ⟨i, h1, _⟩ := h.1.c1
    exact Nat.le_trans hB (Nat.le_of_lt (World.block_lt_of_cell? w1 _ h1)))), h.2.2.below hb⟩
set_option maxRecDepth 100000 in
set_option maxHeartbeats 2000000 in
theorem l02Draw_s (b : Nat) (A : Option Addr) (n c : Nat) (bs : List UInt8) (k most : Nat) (w : World) (hc : CurOk w b A n c bs) (hn : n ≤ 1048576) (hk1 : 1 ≤ k) (hk2 : k ≤ 4) (hm : most ≤ 16) (hbw : b < w.heap.size) :
    Calls Try.prog 159 #[.pointer (some ⟨b, 0, none⟩), .int .i64 k, .int .i64 most] w fun e w' => (∃ m : List UInt8, e = .returned (.string ⟨m.toArray⟩) ∧ m.length ≤ most ∧ M.among k m) ∧ CurStep b A n c bs w w' := by
  have h1 := Lib.hid (l01Below_c b A n c bs ((most : Int) + 1) w hc hn (by omega) (by omega))
  clear hc
  go_enter Try.func159, Try.ntmps159
  go_wp2_with fail
  refine h1.out.mono ?_
  rintro e w1 ⟨⟨v, rfl, hv0, hv1⟩, hs⟩
  obtain ⟨N, rfl⟩ := Int.eq_ofNat_of_zero_le hv0
  have HS := Lib.hid hs
  clear hs
  go_wp2_with fail
  go_loopw [7, 8] (fun s z wr => ∃ (j : Nat) (m : List UInt8), j ≤ N ∧ z = .int .i64 j ∧ s = .string ⟨m.toArray⟩ ∧ m.length + j = N ∧ M.among k m ∧ CurStep b A n c bs w wr) (fun _ z _ => (intOf z).toNat)
  case atStart => exact ⟨N, [], by omega, rfl, rfl, by simp, by intro x hx; simp at hx, HS.out⟩
  case round =>
    obtain ⟨j, m, hj, rfl, rfl, hml, hma, hbl⟩ := hrel
    have H2 := Lib.hid (l01Below_c b A n c bs (k : Int) wr hbl.1 hn (by omega) (by omega))
    have HM := Lib.hid hma
    have HBL := Lib.hid hbl
    clear hma hbl
    by_cases hlt : 0 < j
    case neg =>
      go_wp2_with fail
      go_ret
      exact ⟨⟨m, rfl, by omega, HM.out⟩, HBL.out⟩
    case pos =>
      go_wp2_with fail
      refine H2.out.mono ?_
      rintro e w2 ⟨⟨u, rfl, hu0, hu1⟩, hs⟩
      obtain ⟨U, rfl⟩ := Int.eq_ofNat_of_zero_le hu0
      have hcv := oneByte w2 (97 + (U : Int)) (by omega) (by omega)
      obtain ⟨x, hx⟩ : ∃ x : UInt8, x = UInt8.ofNat (97 + (U : Int)).toNat := ⟨_, rfl⟩
      rw [← hx] at hcv
      have HX := Lib.hid (show x.toNat = 97 + U by rw [hx, UInt8.toNat_ofNat']; omega)
      have HS2 := Lib.hid hs
      clear hs hx
      go_wp2_with fail
      go_roundw
      case rel => exact ⟨j - 1, m ++ [x], by omega, by go_num, by simp, by simp; omega, fun y hy => by
        rcases List.mem_append.1 hy with h | h
        · exact HM.out y h
        · simp at h; subst h; have := HX.out; omega, (HBL.out.trans HS2.out).below ((Below.refl _ _).alloc (Nat.le_refl _) _)⟩
      case measure => simp [intOf] <;> omega
set_option maxRecDepth 100000 in
theorem l01Once_c (b : Nat) (A : Option Addr) (n c : Nat) (bs : List UInt8) (k : Int) (w : World) (hc : CurOk w b A n c bs) (hn : n ≤ 1048576) (hk1 : 1 ≤ k) (hk2 : k ≤ 256) :
    Calls Try.prog 155 #[.pointer (some ⟨b, 0, none⟩), .int .i64 k] w fun e w' => (∃ x : Bool, e = .returned (.bool x)) ∧ CurStep b A n c bs w w' := by
  have h1 := Lib.hid (l01Below_c b A n c bs k w hc hn hk1 hk2)
  clear hc
  go_enter Try.func155, Try.ntmps155
  go_wp2_with fail
  refine h1.out.mono ?_
  rintro e w1 ⟨⟨v, rfl, hv0, hv1⟩, hs⟩
  have HS := Lib.hid hs
  obtain ⟨x, hx⟩ : ∃ x : Bool, x = (v == 0) := ⟨_, rfl⟩
  have hx' := hx.symm
  clear hs hx
  go_wp2_with fail
  go_ret
  exact ⟨⟨_, rfl⟩, HS.out⟩
/-- The systems that MakeEquations reads. -/
def eqTexts : List (List UInt8) := [[49, 32, 97, 97, 97, 62, 46], [50, 32, 97, 97, 62, 46, 32, 98, 98, 62, 46, 32, 97, 98, 97, 62, 98, 97, 98], [50, 32, 97, 97, 62, 46, 32, 98, 98, 98, 62, 46, 32, 97, 98, 97, 98, 62, 46], [50, 32, 97, 98, 62, 98, 97, 32, 97, 97, 62, 97], [50, 32, 97, 98, 62, 46], [50, 32, 97, 98, 97, 62, 98, 32, 98, 97, 98, 62, 97], [50, 32, 97, 97, 97, 97, 62, 46, 32, 98, 98, 62, 46, 32, 98, 97, 62, 97, 97, 97, 98]]
theorem eqTexts_ok : ∀ l ∈ eqTexts, l.length ≤ 100 ∧ M.startOk (M.psK l) (M.psQ l) = true ∧ M.psQ l ≠ [] := by
  have h : eqTexts.all (fun l => decide (l.length ≤ 100) && (M.startOk (M.psK l) (M.psQ l) && !(M.psQ l).isEmpty)) = true := by decide +kernel
  intro l hl
  have := List.all_eq_true.1 h l hl
  simpa using this
theorem CurOk.step {b : Nat} {A : Option Addr} {n c : Nat} {bs : List UInt8} {w w' : World} (h : CurOk w b A n c bs) (hb : Below w.heap.size w w') : CurStep b A n c bs w w' :=
  ⟨h.below hb, fun B w0 hB h0 => h0.trans (hb.mono (by
    obtain ⟨i, h1, _⟩ := h.c1
    exact Nat.le_trans hB (Nat.le_of_lt (World.block_lt_of_cell? w _ h1)))), (Off.refl b w).below hb⟩
theorem rd_row {W : World} {e : TypeId} {xs : List Value} : Rd (W.alloc (.cells xs.toArray e)) 1 (some ⟨W.heap.size, 0, none⟩) xs.length xs :=
  ⟨by simp, fun _ => ⟨W.heap.size, 0, rfl, fun j u hu => by rw [Nat.zero_add, World.cell?_alloc_at _ _ _ _ rfl]; simpa using hu⟩⟩
theorem OwnS.off {b base size n c : Nat} {A : Option Addr} {e : TypeId} {xs : List Value} {w w' : World} (h : OwnS w base e size A n c xs) (ho : Off b w w') (hb : b < base) : OwnS w' base e size A n c xs :=
  ⟨h.1, h.2.1, h.2.2.1, fun hc => by
    obtain ⟨g, off, cur, h1, h2, h3, h4⟩ := h.2.2.2 hc
    exact ⟨g, off, cur, h1, h2, (ho.2 g (Array.getElem?_eq_some_iff.1 h3).1 (by omega)).trans h3, h4⟩⟩
theorem CurStep.up {b : Nat} {A : Option Addr} {n c : Nat} {bs : List UInt8} {w wr w' : World} (h : CurStep b A n c bs w wr) (hb : Below w.heap.size wr w') (hbw : b < w.heap.size) (hA : ∀ ad, A = some ad → 0 < n → ad.block < w.heap.size) : CurStep b A n c bs w w' := by
  obtain ⟨hc, h1, h2⟩ := h
  obtain ⟨i, c1, hi⟩ := hc.c1
  obtain ⟨z, c2⟩ := hc.c2
  refine ⟨⟨cellBelow hb hbw hc.c0, ⟨i, cellBelow hb hbw c1, hi⟩, ⟨z, cellBelow hb hbw c2⟩, (hb.frozen (p := ⟨b, 1, none⟩) hbw).trans hc.f1, (hb.frozen (p := ⟨b, 2, none⟩) hbw).trans hc.f2, ⟨hc.rd.1, fun hn => ?_⟩, hc.off⟩, fun B w0 hB h0 => (h1 B w0 hB h0).trans (hb.mono (by omega)), ⟨Nat.le_trans h2.1 hb.size, fun g hg hne => (hb.block g hg).trans (h2.2 g hg hne)⟩⟩
  obtain ⟨g, q, e, hcell⟩ := hc.rd.2 hn
  have hlt := hA _ e hn
  exact ⟨g, q, e, fun j u hu => cellBelow hb hlt (hcell j u hu)⟩
theorem among_fit {m : List UInt8} (h : M.among 2 m) (hl : m.length ≤ 16) : M.WordOk 2 m = true := by
  unfold M.WordOk
  rw [Bool.and_eq_true, Bool.and_eq_true]
  refine ⟨by decide, decide_eq_true (by omega), ?_⟩
  unfold M.hasLetters
  rw [List.all_eq_true]
  intro x hx
  have := h x hx
  exact M.isLetter_true (by omega)
/-- What the making of equations returns. -/
def RetEqs (e : TypeId) (b : Nat) (A : Option Addr) (n c : Nat) (bs : List UInt8) (w : World) (r : Ending) (w' : World) : Prop :=
  ∃ (k : Int) (es : List M.Rule) (A' : Option Addr) (c' : Nat), r = .returned (.tuple #[.int .i64 k, .slice A' es.length c']) ∧ (M.startOk k es = true ∧ es ≠ []) ∧ OwnS w' w.heap.size e 2 A' es.length c' (ruls es) ∧ CurStep b A n c bs w w'
set_option maxRecDepth 100000 in
set_option maxHeartbeats 8000000 in
theorem l06Equations_c (b : Nat) (A : Option Addr) (n c : Nat) (bs : List UInt8) (w : World) (hc : CurOk w b A n c bs) (hn : n ≤ 1048576) (hbw : b < w.heap.size) :
    Calls Try.prog 112 #[.pointer (some ⟨b, 0, none⟩)] w (RetEqs 84 b A n c bs w) := by
  have HC := Lib.hid hc
  clear hc
  go_enter Try.func112, Try.ntmps112
  go_wp2_with fail
  refine (l01Once_c b A n c bs 3 _ (HC.out.below (ref_al _ _)) hn (by omega) (by omega)).mono ?_
  rintro e w1 ⟨⟨x, rfl⟩, hs1⟩
  have C1 := Lib.hid ((HC.out.step (ref_al w (.cells #[] 84))).trans hs1)
  have SZ1 := Lib.hid (show w.heap.size + 1 ≤ w1.heap.size from by have := hs1.2.2.1; simpa using this)
  clear hs1
  cases x
  case true =>
    go_wp2_with fail
    have HR : Rd (w1.alloc (.cells (strs eqTexts).toArray 9)) 1 (some ⟨w1.heap.size, 0, none⟩) 7 (strs eqTexts) := rd_row
    have C2 := Lib.hid (C1.out.below (ref_al w1 (.cells (strs eqTexts).toArray 9)))
    refine (l01Str_c b A n c bs w1.heap.size 7 eqTexts _ C2.out.1 hn (by decide) HR (by have := SZ1.out; omega)).mono ?_
    rintro e w2 ⟨⟨l, hl, rfl⟩, hs2⟩
    obtain ⟨hlen, hok, hne⟩ := eqTexts_ok l hl
    have C3 := Lib.hid (C2.out.trans hs2)
    have SZ2 := Lib.hid (show w.heap.size + 1 ≤ w2.heap.size from by have h1 := hs2.2.2.1; have h2 := SZ1.out; simp at h1; omega)
    clear hs2 HR C2
    have HP := Lib.hid (fun W => spec_ParseSystem_c l W (by omega))
    generalize M.psK l = k at *
    generalize M.psQ l = es at *
    generalize M.psB l = pb at *
    have hone := ruls_one' es
    have HOK := Lib.hid (And.intro hok hne)
    have hes : es.length ≤ 12 := by
      have h1 := hok
      unfold M.startOk at h1
      simp only [Bool.and_eq_true, decide_eq_true_iff] at h1
      exact h1.2.1
    clear hlen hl hok hne
    obtain ⟨m, hm⟩ : ∃ m, m = es.length := ⟨_, rfl⟩
    have HM := Lib.hid hm
    unfold RetSys at HP
    rw [← hm] at HP hes
    clear hm
    go_wp2_with fail
    refine (HP.out _).mono ?_
    rintro e w3 ⟨B, d, rfl, hown, hb3⟩
    have C4 := Lib.hid ((C3.out.below hb3).below (ref_al w3 (.cells #[.int .i64 k, .slice B m d] 28)))
    have RB := Lib.hid (hown.rd.below (ref_al w3 (.cells #[.int .i64 k, .slice B m d] 28)))
    have SZ3 := Lib.hid (show w.heap.size + 1 ≤ (w3.alloc (.cells #[.int .i64 k, .slice B m d] 28)).heap.size from by have h1 := hb3.size; have h2 := SZ2.out; simp; omega)
    have T0 : (w3.alloc (.cells #[.int .i64 k, .slice B m d] 28)).cell? ⟨w3.heap.size, 0, none⟩ = some (.int .i64 k) ∧ (w3.alloc (.cells #[.int .i64 k, .slice B m d] 28)).cell? ⟨w3.heap.size, 1, none⟩ = some (.slice B m d) := ⟨by simp [go_sem], by simp [go_sem]⟩
    clear hown hb3
    go_wp2_with fail
    generalize w3.alloc (.cells #[.int .i64 k, .slice B m d] 28) = w4 at *
    generalize w3.heap.size = g6 at *
    have KD := (Below.refl w4.heap.size w4).drew
    have TD : w4.drew.cell? ⟨g6, 0, none⟩ = some (.int .i64 k) ∧ w4.drew.cell? ⟨g6, 1, none⟩ = some (.slice B m d) := ⟨cellKeep KD T0.1, cellKeep KD T0.2⟩
    refine wp_region_U (fun w' => w'.cell? ⟨g6, 0, none⟩ = some (.int .i64 k) ∧ w'.cell? ⟨g6, 1, none⟩ = some (.slice B m d)) 7 (by kernel_rfl) (TD) (fun hHeld => ?_)
    refine takeU (i := 0) (v := ?v1) rfl (by kernel_rfl) (fun _ _ _ h => h) (Or.inl ⟨by rfl, ?hy1⟩) (by assumption) ?rest1
    case hy1 => (intro w hSw; (try dsimp only at hSw); (first | (go_simp; done) | (go_simp; with_reducible rfl)))
    case rest1 =>
      try simp only [Act.put, List.setIfInBounds_toArray, List.set_cons_zero, List.set_cons_succ]
      refine takeU (i := 1) (v := ?v2) rfl (by kernel_rfl) (fun _ _ _ h => h) (Or.inl ⟨by rfl, ?hy2⟩) (by assumption) ?rest2
      case hy2 => (intro w hSw; (try dsimp only at hSw); (first | (go_simp; done) | (go_simp; with_reducible rfl)))
      case rest2 =>
        try simp only [Act.put, List.setIfInBounds_toArray, List.set_cons_zero, List.set_cons_succ]
        refine takeU (i := 2) (v := ?v3) rfl (by kernel_rfl) (fun _ _ _ h => h) (Or.inl ⟨by rfl, ?hy3⟩) (by assumption) ?rest3
        case hy3 => (intro w hSw; (try dsimp only at hSw); (first | (go_simp; done) | (go_simp; with_reducible rfl)))
        case rest3 =>
          try simp only [Act.put, List.setIfInBounds_toArray, List.set_cons_zero, List.set_cons_succ]
          refine takeU (i := 3) (v := ?v4) rfl (by kernel_rfl) (fun _ _ _ h => h) (Or.inl ⟨by rfl, ?hy4⟩) (by assumption) ?rest4
          case hy4 => (intro w hSw; (try dsimp only at hSw); (first | (go_simp; done) | (go_simp; with_reducible rfl)))
          case rest4 =>
            try simp only [Act.put, List.setIfInBounds_toArray, List.set_cons_zero, List.set_cons_succ]
            refine takeU (i := 4) (v := ?v5) rfl (by kernel_rfl) (fun _ _ _ h => h) (Or.inl ⟨by rfl, ?hy5⟩) (by assumption) ?rest5
            case hy5 => (intro w hSw; (try dsimp only at hSw); (first | (go_simp; done) | (go_simp; with_reducible rfl)))
            case rest5 =>
              try simp only [Act.put, List.setIfInBounds_toArray, List.set_cons_zero, List.set_cons_succ]
              refine wpAnyU_ready (rs := [5]) (by kernel_rfl) (by simp) ?_
              refine consU rfl (fun K hK => ?_) ?_
              · refine step_from_lit rfl (.tmp 21) (.tmp 23) rfl slRule rfl rfl (RB.out.below KD) hone (by omega) ?_
                intro A7 c7 w7 hown7 hb7
                refine hK.out _ _ (⟨cellKeep hb7 TD.1, cellKeep hb7 TD.2⟩) (fun hHeld => ?_)
                clear hK K
                try simp only [Act.put, List.setIfInBounds_toArray, List.set_cons_zero, List.set_cons_succ]
                refine takeU (i := 6) (v := ?v6) rfl (by kernel_rfl) (fun _ _ _ h => h) (Or.inl ⟨by rfl, ?hy6⟩) (by assumption) ?rest6
                case hy6 => (intro w hSw; (try dsimp only at hSw); (first | (go_simp; done) | (go_simp; with_reducible rfl)))
                case rest6 =>
                  try simp only [Act.put, List.setIfInBounds_toArray, List.set_cons_zero, List.set_cons_succ]
                  refine wpAnyU_ready (rs := [7]) (by kernel_rfl) (by simp) ?_
                  refine lastU rfl (fun K hK => ?_)
                  go_simp
                  refine hK.out _ _ ?_
                  clear hK K
                  try simp only [Act.put, List.setIfInBounds_toArray, List.set_cons_zero, List.set_cons_succ]
                  refine wpAnyU_done (by kernel_rfl) ?_ _
                  have HO := Lib.hid (hown7.mono (base' := w.heap.size) (by have := SZ3.out; simp; omega))
                  have HC7 := Lib.hid ((C4.out.below KD).below hb7)
                  clear hown7 hb7 KD TD T0
                  try clear hHeld
                  go_wp2_with fail
                  go_ret2
                  have hm := HM.out
                  subst hm
                  exact ⟨k, es, A7, c7, rfl, HOK.out, HO.out, HC7.out⟩
              exact AllU.nil
  case false =>
    go_wp2_with fail
    refine (l01Below_c b A n c bs 2 _ C1.out.1 hn (by omega) (by omega)).mono ?_
    rintro e w2 ⟨⟨v, rfl, hv0, hv1⟩, hs2⟩
    obtain ⟨N, rfl⟩ := Int.eq_ofNat_of_zero_le hv0
    have C2 := Lib.hid (C1.out.trans hs2)
    clear hs2
    go_wp2_with fail
    go_loopw [5, 8] (fun s z wr => ∃ (j : Nat) (es : List M.Rule) (A' : Option Addr) (c' : Nat), z = .int .i64 j ∧ s = .slice A' es.length c' ∧ es.length + j ≤ 2 ∧ 1 ≤ es.length + j ∧ (∀ r ∈ es, M.SidesOk 2 r = true) ∧ OwnS wr w.heap.size 84 2 A' es.length c' (ruls es) ∧ CurStep b A n c bs w wr) (fun _ z _ => (intOf z).toNat)
    case atStart => exact ⟨1 + N, [], some ⟨w.heap.size, 0, none⟩, 0, by go_num, rfl, by simp; omega, by simp, fun r hr => by simp at hr, ⟨by simp [ruls], Nat.le_refl _, by simp [maxLen], fun h => by omega⟩, C2.out⟩
    case round =>
      obtain ⟨j, es, A', c', rfl, rfl, h2, h1, hr, ho, hcs⟩ := hrel
      have HRR := Lib.hid hr
      have HO := Lib.hid ho
      have HCS := Lib.hid hcs
      clear hr ho hcs
      by_cases hlt : 0 < j
      case neg =>
        obtain rfl : j = 0 := by omega
        have HOK := Lib.hid (show M.startOk 2 es = true ∧ es ≠ [] from ⟨by
          unfold M.startOk
          have h3 : es.any (fun r => !M.SidesOk 2 r) = false := List.any_eq_false.2 fun r hr => by simp [HRR.out r hr]
          rw [h3, decide_eq_true (show es.length ≤ 12 by omega)]
          rfl, fun e => by subst e; simp at h1⟩)
        go_wp2_with fail
        go_ret2
        exact ⟨2, es, A', c', rfl, HOK.out, HO.out, HCS.out⟩
      case pos =>
        have hn1 : (97 : Int) = 97 := rfl
        clear hn1
        have SZW := Lib.hid HCS.out.2.2.1
        go_wp2_with fail
        refine (l02Draw_s b A n c bs 2 3 _ HCS.out.1 hn (by omega) (by omega) (by omega) (by have := SZW.out; omega)).mono ?_
        rintro e w3 ⟨⟨u, rfl, hul, hua⟩, hs3⟩
        have HS3 := Lib.hid hs3
        clear hs3
        go_wp2_with fail
        refine (l02Draw_s b A n c bs 2 2 _ HS3.out.1 hn (by omega) (by omega) (by omega) (by have := SZW.out; have := HS3.out.2.2.1; omega)).mono ?_
        rintro e w4 ⟨⟨v2, rfl, hvl, hva⟩, hs4⟩
        have HO4 := Lib.hid ((HO.out.off HS3.out.2.2 hbw).off hs4.2.2 hbw)
        have HS4 := Lib.hid ((HCS.out.trans HS3.out).trans hs4)
        have SZ4 := Lib.hid (show w.heap.size ≤ (w4.alloc (.cells #[.string ⟨u.toArray⟩, .string ⟨v2.toArray⟩] 84)).heap.size from by have := SZW.out; have := HS3.out.2.2.1; have := hs4.2.2.1; simp; omega)
        have HSD := Lib.hid (show M.SidesOk 2 ⟨u, v2⟩ = true from by unfold M.SidesOk; simp only; rw [among_fit hua (by omega), among_fit hva (by omega), decide_eq_true (show (u.length : Int) ≤ 8 by omega), decide_eq_true (show (v2.length : Int) ≤ 8 by omega)]; rfl)
        clear hs4 hua hva HS3 HCS HO
        go_wp2_with (at_builtin; refine push_off_many rfl _ _ rfl slRule rfl (HO4.out.below (ref_al _ _)) rfl (rd_lit _ ⟨u, v2⟩ _) (ruleCells_one ⟨u, v2⟩) SZ4.out (by omega) ?_; intro A7 c7 w7 hown7 hg7 hat7)
        have HC7 := Lib.hid ((HS4.out.below (ref_al w4 (.cells #[.string ⟨u.toArray⟩, .string ⟨v2.toArray⟩] 84))).up ((Below.refl _ _).grown hg7 SZ4.out (fun _ hk => (HO4.out.lt _ hk).1)) hbw (fun ad ha hn0 => by
          obtain ⟨g, q, e1, hcell⟩ := HC.out.rd.2 hn0
          rw [ha] at e1
          injection e1 with e1
          subst e1
          exact HC.out.rd.lt (by decide) hn0 ha))
        have HO7 := Lib.hid (show OwnS w7 w.heap.size 84 2 A7 (es ++ [(⟨u, v2⟩ : M.Rule)]).length c7 (ruls (es ++ [⟨u, v2⟩])) from by rw [ruls_snoc, List.length_append]; exact hown7)
        clear hown7 hg7 hat7
        try go_wp2_with fail
        go_roundw
        case rel => exact ⟨j - 1, es ++ [⟨u, v2⟩], A7, c7, by go_num, by rw [List.length_append]; rfl, by rw [List.length_append]; simp; omega, by rw [List.length_append]; simp; omega, fun r hr => by
          rcases List.mem_append.1 hr with hr | hr
          · exact HRR.out r hr
          · rw [List.mem_singleton.1 hr]; exact HSD.out, HO7.out, HC7.out⟩
        case measure => simp [intOf] <;> omega
set_option maxRecDepth 100000 in
set_option maxHeartbeats 2000000 in
theorem MakeEquations_c (A : Option Addr) (n c : Nat) (bs : List UInt8) (w : World) (hA : Rd w 1 A n (u8s bs)) (hn : n ≤ 1048576) :
    Calls Try.prog 56 #[.slice A n c, .int .i64 0] w fun e w' => ∃ (k : Int) (es : List M.Rule) (A' : Option Addr) (c' : Nat), e = .returned (.tuple #[.int .i64 k, .slice A' es.length c']) ∧ (M.startOk k es = true ∧ es ≠ []) ∧ OwnS w' w.heap.size 84 2 A' es.length c' (ruls es) ∧ Below w.heap.size w w' := by
  have H1 := Lib.hid (l31New_c A n c bs 0 w hA hn (by omega))
  clear hA
  go_enter Try.func56, Try.ntmps56
  go_wp2_with fail
  refine H1.out.mono ?_
  rintro e w1 ⟨b, rfl, hbg, hc, hb⟩
  have hbw : b < w1.heap.size := by obtain ⟨i, h, _⟩ := hc.c1; exact World.block_lt_of_cell? w1 _ h
  have H2 := Lib.hid (l06Equations_c b A n c bs w1 hc hn hbw)
  have HB := Lib.hid hb
  clear hc hb
  unfold RetEqs at H2
  go_wp2_with fail
  refine H2.out.mono ?_
  rintro e w2 ⟨k, es, A', c', rfl, hok, ho, hcs⟩
  have HK := Lib.hid hok
  have HO := Lib.hid (ho.mono (base' := w.heap.size) HB.out.size)
  have HB2 := Lib.hid (hcs.2.1 w.heap.size w hbg HB.out)
  clear hok ho hcs
  go_wp2_with fail
  go_ret2
  exact ⟨k, es, A', c', rfl, HK.out, HO.out, HB2.out⟩
end Go.Proofs.Ytlohpphmamapeaa
/-
  Contracts of SameSystem and of slices.Equal at rules.
  Conditions: at most 2^20 rules.
-/
namespace Go.Proofs.Ytlohpphmamapeaa
open Go.RowKit
set_option linter.unusedVariables false

set_option maxRecDepth 100000 in
set_option maxHeartbeats 2000000 in
theorem EqualRule_c (A B : Option Addr) (c d : Nat) (xs ys : List M.Rule) (w : World) (hA : Rd w 2 A xs.length (ruls xs)) (hB : Rd w 2 B ys.length (ruls ys)) (hx : xs.length ≤ 1048576) (hy : ys.length ≤ 1048576) :
    Calls Try.prog 119 #[.slice A xs.length c, .slice B ys.length d] w fun e w' => e = .returned (.bool (decide (xs = ys))) ∧ Below w.heap.size w w' := by
  by_cases hl : xs.length = ys.length
  case neg =>
    rw [decide_eq_false (show ¬ xs = ys from fun e => hl (by rw [e]))]
    have hl' : ((xs.length : Int) != (ys.length : Int)) = true := by rw [bne_iff_ne]; omega
    go_enter Try.func119, Try.ntmps119
    go_wp2
    go_ret
    exact ⟨rfl, Below.refl _ _⟩
  case pos =>
    have HL := Lib.hid hl
    have HA := Lib.hid hA
    have HB := Lib.hid hB
    obtain ⟨n, hn⟩ : ∃ n, n = ys.length := ⟨_, rfl⟩
    have hn1 : xs.length = n := by omega
    rw [hn1, ← hn]
    have HN := Lib.hid hn
    have HN1 := Lib.hid hn1
    have hn2 : n ≤ 1048576 := by omega
    clear hA hB hn hn1 hl hx hy
    go_enter Try.func119, Try.ntmps119
    go_wp2
    go_loopw [13] (fun i wr => ∃ k : Nat, k ≤ n ∧ i = .int .i64 k ∧ xs.take k = ys.take k ∧ Below w.heap.size w wr) (fun i _ => n - (intOf i).toNat)
    case atStart => exact ⟨0, by omega, rfl, by simp, by repeat (first | exact Below.refl _ _ | refine Below.alloc ?_ (by simp <;> omega) _)⟩
    case round =>
      obtain ⟨k, hk, rfl, ht, hb⟩ := hrel
      have HT := Lib.hid ht
      have HW := Lib.hid hb
      clear ht hb
      by_cases hlt : k < n
      · obtain ⟨b1, o1, rfl, hz1, hc1, hd1⟩ := (HA.out.below HW.out).ruleAt (k := k) (by have := HN1.out; omega)
        obtain ⟨b2, o2, rfl, hz2, hc2, hd2⟩ := (HB.out.below HW.out).ruleAt (k := k) (by have := HN.out; omega)
        have HE := Lib.hid (fun (h : xs[k].left = ys[k].left ∧ xs[k].right = ys[k].right) => take_eq_succ hz1 hz2 HT.out (rule_ext (x := xs[k]) (y := ys[k]) h.1 h.2))
        have HNE := Lib.hid (fun (h : ¬ (xs[k].left = ys[k].left ∧ xs[k].right = ys[k].right)) => ne_at hz1 hz2 (fun e => h (by rw [e]; exact ⟨rfl, rfl⟩)))
        generalize xs[k] = x at *
        generalize ys[k] = y at *
        obtain ⟨xl, xr⟩ := x
        obtain ⟨yl, yr⟩ := y
        simp only at hc1 hd1 hc2 hd2 HE HNE
        by_cases hel : xl = yl
        case neg =>
          have hel' : (xl == yl) = false := by simpa using hel
          have HNN := Lib.hid (HNE.out (fun h => hel h.1))
          clear hel HE HNE
          go_wp2
          go_quiet (fail)
          go_wp2
          go_ret
          exact ⟨ret_bool (decide_eq_false HNN.out).symm, below_drewN HW.out _⟩
        case pos =>
        by_cases her : xr = yr
        case neg =>
          have her' : (xr == yr) = false := by simpa using her
          have HNN := Lib.hid (HNE.out (fun h => her h.2))
          clear her HE HNE
          subst hel
          go_wp2
          go_quiet (fail)
          go_wp2
          go_ret
          exact ⟨ret_bool (decide_eq_false HNN.out).symm, below_drewN HW.out _⟩
        case pos =>
          have HEE := Lib.hid (HE.out ⟨hel, her⟩)
          clear HE HNE
          subst hel
          subst her
          go_wp2
          go_quiet (fail)
          go_wp2
          go_roundw
          case rel => exact ⟨k + 1, by omega, by go_num, HEE.out, below_drewN HW.out _⟩
          case measure => simp [intOf]; omega
      · go_wp2
        go_ret
        exact ⟨ret_bool (decide_eq_true (eq_of_takes HL.out (by have := HN1.out; omega) HT.out)).symm, HW.out⟩
def M.SameSystem (k1 k2 : Int) (xs ys : List M.Rule) : Bool := decide (k1 = k2) && decide (xs = ys)
set_option maxRecDepth 100000 in
set_option maxHeartbeats 2000000 in
theorem impl_SameSystem_c (k1 k2 : Int) (A B : Option Addr) (c d : Nat) (xs ys : List M.Rule) (w : World) (hA : Rd w 2 A xs.length (ruls xs)) (hB : Rd w 2 B ys.length (ruls ys)) (hx : xs.length ≤ 1048576) (hy : ys.length ≤ 1048576) :
    Calls Try.prog 59 #[.agg #[.int .i64 k1, .slice A xs.length c], .agg #[.int .i64 k2, .slice B ys.length d]] w fun e w' => e = .returned (.bool (M.SameSystem k1 k2 xs ys)) ∧ Below w.heap.size w w' := by
  have HA := Lib.hid hA
  have HB := Lib.hid hB
  have h1 := Lib.hid (fun W hA hB => EqualRule_c A B c d xs ys W hA hB hx hy)
  unfold M.SameSystem
  clear hA hB
  generalize decide (xs = ys) = q at *
  by_cases hk : k1 = k2
  case neg =>
    have hk' : (k1 == k2) = false := by simpa using hk
    rw [decide_eq_false hk]
    clear hk
    go_enter Try.func59, Try.ntmps59
    go_wp2
    go_ret
    exact ⟨rfl, below_two _ _ _⟩
  case pos =>
    subst hk
    rw [decide_eq_true rfl]
    go_enter Try.func59, Try.ntmps59
    go_wp2_with fail
    refine (h1.out _ (HA.out.below (below_two _ _ _)) (HB.out.below (below_two _ _ _))).mono ?_
    rintro e w1 ⟨rfl, hb⟩
    go_wp2_with fail
    go_ret
    exact ⟨rfl, below_alloc2 hb⟩

end Go.Proofs.Ytlohpphmamapeaa
/-
  A law's argument of bytes, opened.
  Conditions: none; this text names no law.
-/
namespace Go.Proofs.Ytlohpphmamapeaa
open Go.ChangeShapes Go.WideShapes Go.ChangeAt Go.RowKit Go.Joins Go.Deep
set_option linter.unusedVariables false

section
variable {H : Type} {enc : TypeId × Value → H} {w : World} {b0 : Nat} {held : Bool} {spare : Nat → Bool} {v : Value} {d : DataW H} {p : List MemPlace}
def u81 (x : UInt8) : List Value := [.int .u8 (x.toNat : Int)]
theorem u8s_flat : ∀ l : List UInt8, l.flatMap u81 = u8s l
  | [] => rfl
  | z :: zs => by rw [List.flatMap_cons, u8s_flat zs]; rfl
theorem Try.cellsU8 : Try.prog.cellsOf 5 = 1 := by kernel_rfl
theorem openOneU8 {n : Nat} {v : Value} {y : DataW H × List MemPlace} (h : DataW.trod enc Try.prog w 0 spare held n 5 [v] = some y) : ∃ x : UInt8, v = .int .u8 (x.toNat : Int) := by
  obtain ⟨k, e, _, hs⟩ := DataW.trod_int Try.underlying5 h
  simp only [List.cons.injEq, and_true] at e
  have h1 : IntKind.u8.min = 0 := rfl
  have h2 : IntKind.u8.max = 255 := rfl
  simp only [Lit.wf, Bool.and_eq_true, decide_eq_true_eq] at hs
  refine ⟨UInt8.ofNat k.toNat, ?_⟩
  rw [e, UInt8.toNat_ofNat']
  congr 1
  omega
set_option maxRecDepth 100000 in
theorem openByteSlice {n : Nat} {v : Value} {y : DataW H × List MemPlace} (h : DataW.trod enc Try.prog w 0 spare held n 75 [v] = some y) :
    ∃ (A : Option Addr) (c : Nat) (l : List UInt8), v = .slice A l.length c ∧ l.length ≤ 9223372036854775807 ∧ Rd w 1 A l.length (u8s l) := by
  obtain ⟨A, c, zs, e, h1, h2, _⟩ := openElems u81 (fun _ => True) (fun _ => rfl) (by decide) Try.underlying75 Try.cellsU8 (fun m cs y hl hy => by
    match cs, hl with
    | [c0], _ =>
      obtain ⟨k, rfl⟩ := openOneU8 hy
      exact ⟨k, rfl, trivial⟩) h
  exact ⟨A, c, zs, e, h1, by rwa [u8s_flat] at h2⟩
set_option maxRecDepth 100000 in
theorem openBytes (hv : Value.okWide Try.prog w .any b0 75 v) (h : DataW.Trod enc Try.prog w 0 spare held 75 v d p) :
    ∃ (A : Option Addr) (c : Nat) (l : List UInt8), v = .slice A l.length c ∧ (l.length ≤ 9223372036854775807 ∧ Rd w 1 A l.length (u8s l)) := by
  obtain ⟨a0, len, cap, rfl⟩ := okWide_slice Try.underlying75 hv
  obtain ⟨fuel, hf⟩ := h
  obtain ⟨A, c, xs, e, h1, h2⟩ := openByteSlice (v := .slice a0 len cap) (by simpa [Value.cells] using hf)
  exact ⟨A, c, xs, e, h1, h2⟩
end

end Go.Proofs.Ytlohpphmamapeaa
