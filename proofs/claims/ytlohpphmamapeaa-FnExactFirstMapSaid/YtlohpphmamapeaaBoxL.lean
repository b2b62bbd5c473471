/-
  A range over an iterator that keeps a list of its own in memory and writes it between two rounds: the law for the caller.
  Conditions: the loop's body goes on, or returns.
-/
import Derived.RangeFuncNested
import Derived.RangeFuncBound
import Derived.RangeFuncCalls
import Derived.RangeFuncLeaves
import Derived.Shelf.Abstract
import Derived.Shelf.RegionOpen
import Derived.WalkKit
import Derived.OwnWalkIn
import Derived.TacticsInMore
import Derived.LoopNIn
import Derived.LoopIn
import Derived.Sort.QuietIn
import Derived.Test.YtlohpphmamapeaaOwn
namespace Go.Proofs.Ytlohpphmamapeaa
open Go Go.RowKit Go.Shelf
set_option linter.unusedVariables false

/-- What a step of a world from block B on leaves. -/
def AbB (B : Nat) (J : World → Prop) : Prop := ∀ X Y row, J X → X.grownBy Y row → (∀ r, row = some r → B ≤ r) → J Y
/-- A round: it is handed the list with number i, and goes on, or says no more. -/
def RoundB (P : Program) (l : Nat) (list : Nat → List Int) (m N B : Nat) (cb : Option Nat) (J : Nat → World → Prop) (Jx : World → Prop) (q : Nat) : Prop :=
  ∀ (i r : Nat) (W : World), i < N → J i W → Rd W 1 (some ⟨r, 0, none⟩) m (ints (list i)) → B ≤ r → YieldAt Fence.wide q P l #[.slice (some ⟨r, 0, none⟩) m m] W fun e W' =>
    (e = .returned (.bool true) ∧ J (i + 1) W' ∧ W.grownBy W' cb) ∨ (e = .returned (.bool false) ∧ Jx W')
/-- The contract of such an iterator: N lists, unless a round says no more. -/
def IterB (P : Program) (gf : Nat) (lb : Array Value) (list : Nat → List Int) (m N : Nat) (cb : Option Nat) (q : Nat) (w : World) : Prop :=
  ∀ (l : Nat) (J : Nat → World → Prop) (Jx : World → Prop) (W : World), Below w.heap.size w W → (∀ i, AbB W.heap.size (J i)) → RoundB P l list m N W.heap.size cb J Jx (q - 1) → J 0 W →
    CallsIn Fence.wide q P gf (#[.func (.yield l) #[] #[]] ++ lb) W fun e W' => (∃ v, e = .returned v) ∧ (J N W' ∨ Jx W')
/-- How the body of a round may be left. -/
def postB (cb : Option Nat) (I : Nat → World → Prop) (Ix : World → Prop) (i : Nat) (W : World) : Exit → Act → World → Prop
  | .normal, _, W' => W.grownBy W' cb ∧ I (i + 1) W'
  | .ret, _, W' => KeepsOthers W W' ∧ Ix W'
  | _, _, _ => False
theorem grown_three {W Wb W3 W4 : World} {l : Nat} {cb : Option Nat} (h1 : W.grownBy Wb (some l)) (h2 : Wb.grownBy W3 cb) (h3 : W3.grownBy W4 (some l)) (hl : W4.heap[l]? = W.heap[l]?) : W.grownBy W4 cb :=
  ⟨h3.os.trans (h2.os.trans h1.os), h3.tape.trans (h2.tape.trans h1.tape), h3.output.trans (h2.output.trans h1.output), Nat.le_trans h1.size (Nat.le_trans h2.size h3.size), fun k hk hne => by
    by_cases e : k = l
    · subst e; exact hl
    · have hs1 := h1.size
      have hs2 := h2.size
      have ne : some k ≠ some l := fun h => e (by injection h)
      exact (h3.block k (by omega) ne).trans ((h2.block k (by omega) hne).trans (h1.block k hk ne))⟩
set_option maxHeartbeats 1000000 in
theorem wpIn_iterB {P : Program} {n : Nat} {g : Operand} {ps : Array Tmp} {assign body : Code} {Q : Exit → Act → World → Prop} {a : Act} {w : World}
    {gf : Nat} {lb : Array Value} (hg : a.eval g = .func (.func gf) #[] lb) (eg : ∀ args w, (callFunc gf args).run P w = .ok (.enter gf args) w) (hps : ps.size = 1)
    {list : Nat → List Int} {m N : Nat} {cb : Option Nat} (hseq : IterB P gf lb list m N cb (n - 1) w) (hcb : ∀ k, cb = some k → k < w.heap.size)
    (I : Nat → World → Prop) (Ix : World → Prop) (abI : ∀ i, AbB w.heap.size (I i)) (abX : ∀ (X : World) (l : Nat) (o o' : Obj), w.heap.size ≤ l → Ix X → X.heap[l]? = some o → o.isCells = false → Ix (X.putObj l o')) (h0 : I 0 w) (a₁ : Value → Act)
    (hassign : ∀ (l : Nat) (v : Value) (W : World) (K : Act → World → Prop), K (a₁ v) W →
      assign.wpIn (Fence.wide.inRound l) (n - 1 - 1) P (Exit.then K (fun _ _ _ => False)) { tmps := (ps.zip #[v]).foldl (fun t (p, v) => t.setIfInBounds p v) a.tmps, defers := [] } W)
    (hbody : ∀ (l i r : Nat) (W : World), i < N → I i W → w.heap.size ≤ r → Rd W 1 (some ⟨r, 0, none⟩) m (ints (list i)) → body.wpIn (Fence.wide.inRound l) (n - 1 - 1) P (postB cb I Ix i W) (a₁ (.slice (some ⟨r, 0, none⟩) m m)) W)
    (hdone : ∀ (D : Nat) (W : World), I N W → w.heap.size ≤ D → W.heap[D]? = some (.deferred (some [])) → Q .normal { a with defers := { target := .collected D, args := #[] } :: a.defers } W)
    (hstop : ∀ (D : Nat) (W : World), Ix W → w.heap.size ≤ D → W.heap[D]? = some (.deferred (some [])) → Code.ret.wpIn Fence.wide n P Q { a with defers := { target := .collected D, args := #[] } :: a.defers } W) :
    (Code.rangeFunc g ps assign body).wpIn Fence.wide n P Q a w := by
  refine wpIn_rangeFunc ?_
  intro fn hfn
  obtain ⟨rec, hrec⟩ : ∃ rec : LoopState → Option Code → Loop, rec = fun st pe => { state := st, pending := pe, fn, tmps := a.tmps, params := ps, assign, body, defers := w.heap.size } := ⟨_, rfl⟩
  obtain ⟨W1, hW1⟩ : ∃ W1, W1 = (w.alloc (.deferred (some []))).alloc (.loop (rec .ready none)) := ⟨_, rfl⟩
  have hL1 : W1.heap[w.heap.size + 1]? = some (.loop (rec .ready none)) := by
    rw [hW1]
    have := World.alloc_heap_new (w.alloc (.deferred (some []))) (.loop (rec .ready none))
    rwa [World.size_alloc] at this
  have hK1 : W1.heap[w.heap.size]? = some (.deferred (some [])) := by
    rw [hW1]
    exact (Below.heap_alloc _ _ _ (by simp)).trans (World.alloc_heap_new w _)
  have hS1 : W1.heap.size = w.heap.size + 2 := by rw [hW1]; simp
  have hb1 : Below w.heap.size w W1 := by rw [hW1]; exact ((Below.refl _ w).alloc (Nat.le_refl _) _).alloc (by simp) _
  have hI1 : I 0 W1 := abI 0 _ _ none h0 ⟨hb1.os, hb1.tape, hb1.output, hb1.size, fun k hk _ => hb1.block k hk⟩ (fun r e => by cases e)
  refine ⟨w.heap.size + 1, [{ target := .collected w.heap.size, args := #[] }], W1, { target := .fn (.func gf) lb, args := #[.func (.yield (w.heap.size + 1)) #[] #[]] }, W1, gf,
    #[.func (.yield (w.heap.size + 1)) #[] #[]] ++ lb, W1, ?_, ?_, fun _ _ => trivial, ?_, fun h => by simp [Fence.wide] at h, ?_⟩
  · rw [hW1, hrec]; exact run_enterLoop_outer _ _ _ _ _
  · simp only [resolve, hg]
    simp [go_sem]
  · simp [invoke, go_sem, eg]
  obtain ⟨R, hR⟩ : ∃ R : World → Prop, R = fun W => W.heap[w.heap.size + 1]? = some (.loop (rec .ready none)) ∧ W.heap[w.heap.size]? = some (.deferred (some [])) := ⟨_, rfl⟩
  have put : ∀ (J : World → Prop), AbB w.heap.size J → ∀ (W : World) (o : Obj), J W → J (W.putObj (w.heap.size + 1) o) := fun J ab W o h => ab _ _ _ h (grownBy_putObj' W _ o) (fun r e => by cases e; omega)
  refine (hseq (w.heap.size + 1) (fun i W => I i W ∧ R W) (fun W => Ix W ∧ W.heap[w.heap.size + 1]? = some (.loop (rec .done (some .ret))) ∧ W.heap[w.heap.size]? = some (.deferred (some []))) W1 hb1
    (fun i X Y row hs hgr hr => ?_) (fun i r W hi hJ hrd hr => ?_) ⟨hI1, by rw [hR]; exact ⟨hL1, hK1⟩⟩).mono ?_
  · -- the iterator's own steps
    obtain ⟨hi, hl⟩ := hs
    refine ⟨abI i _ _ row hi hgr (fun r e => by have := hr r e; omega), ?_⟩
    rw [hR] at hl ⊢
    have ne : ∀ k, k < w.heap.size + 2 → some k ≠ row := fun k hk e => by
      have := hr k e.symm
      omega
    exact ⟨(hgr.block _ (Array.getElem?_eq_some_iff.1 hl.1).1 (ne _ (by omega))).trans hl.1, (hgr.block _ (Array.getElem?_eq_some_iff.1 hl.2).1 (ne _ (by omega))).trans hl.2⟩
  · -- one round
    obtain ⟨hi0, hl0⟩ := hJ
    rw [hR] at hl0
    obtain ⟨hl, hk⟩ := hl0
    have hlt : w.heap.size + 1 < W.heap.size := (Array.getElem?_eq_some_iff.1 hl).1
    have hy := run_yield (P := P) (args := #[.slice (some ⟨r, 0, none⟩) m m]) hl (by rw [hrec]; exact hps.symm)
    rw [hrec] at hy
    refine ⟨fn, _, assign, body, hy, roundIn_of_wpIn hfn (hassign _ _ W _ ⟨_, run_beginRound hl (by rw [hrec]), ?_⟩)⟩
    obtain ⟨Wb, hWb⟩ : ∃ Wb, Wb = W.putObj (w.heap.size + 1) (.loop { rec .ready none with state := .busy }) := ⟨_, rfl⟩
    have hgb : W.grownBy Wb (some (w.heap.size + 1)) := by rw [hWb]; exact grownBy_putObj' _ _ _
    have hlb : Wb.heap[w.heap.size + 1]? = some (.loop { rec .ready none with state := .busy }) := by rw [hWb]; exact World.putObj_heap_same hlt
    have hkb : Wb.heap[w.heap.size]? = some (.deferred (some [])) := by rw [hWb]; exact (World.putObj_heap_other (by omega)).trans hk
    have hrb : Rd Wb 1 (some ⟨r, 0, none⟩) m (ints (list i)) := hrd.grown hgb (fun _ ad ha => by
      injection ha with ha
      subst ha
      intro e
      injection e with e
      simp only at e
      omega)
    have hib : I i Wb := by rw [hWb]; exact put _ (abI i) _ _ hi0
    rw [← hWb]
    refine wpIn_mono (hbody _ i r Wb hi hib (by omega) hrb) ?_
    rintro e a3 W3 hp
    have fin : ∀ (jump : Option Code), W3.heap[w.heap.size + 1]? = some (.loop { rec .ready none with state := .busy }) →
        (Instr.endRound (w.heap.size + 1) jump).run P W3 = .ok (.bool jump.isNone) (W3.putObj (w.heap.size + 1) (.loop (rec (if jump.isNone then .ready else .done) jump))) ∧
        (W3.putObj (w.heap.size + 1) (.loop (rec (if jump.isNone then .ready else .done) jump))).heap[w.heap.size + 1]? = some (.loop (rec (if jump.isNone then .ready else .done) jump)) := fun jump hl3 => by
      have := run_endRound (P := P) jump hl3
      rw [hrec] at this ⊢
      exact ⟨this, World.putObj_heap_same (Array.getElem?_eq_some_iff.1 hl3).1⟩
    cases e with
    | normal =>
      obtain ⟨hgr, hi3⟩ := hp
      have ne : ∀ k, w.heap.size ≤ k → some k ≠ cb := fun k hk' e => by
        have := hcb k e.symm
        omega
      have hsb := hgb.size
      have hl3 := (hgr.block _ (by omega) (ne _ (by omega))).trans hlb
      have hk3 := (hgr.block _ (by omega) (ne _ (by omega))).trans hkb
      obtain ⟨hrun, hl4⟩ := fin none hl3
      refine ⟨_, _, hrun, Or.inl ⟨rfl, ⟨put _ (abI (i + 1)) _ _ hi3, ?_⟩, grown_three hgb hgr (grownBy_putObj' _ _ _) (hl4.trans hl.symm)⟩⟩
      rw [hR]
      exact ⟨hl4, (World.putObj_heap_other (by omega)).trans hk3⟩
    | ret =>
      obtain ⟨hko, hi3⟩ := hp
      have hl3 := hko.same _ _ hlb rfl
      have hk3 := hko.same _ _ hkb rfl
      obtain ⟨hrun, hl4⟩ := fin (some .ret) hl3
      exact ⟨_, _, hrun, Or.inr ⟨rfl, abX _ _ _ _ (by omega) hi3 hl3 rfl, hl4, (World.putObj_heap_other (by omega)).trans hk3⟩⟩
    | exit id => exact hp.elim
    | goto t => exact hp.elim
    | panic ch => exact hp.elim
    | outgrown => exact hp.elim
  · -- behind the iterator
    rintro e W2 ⟨⟨v, rfl⟩, (⟨hi, hl0⟩ | ⟨hi, hl, hk⟩)⟩
    · rw [hR] at hl0
      obtain ⟨hl, hk⟩ := hl0
      exact ⟨none, _, by have := run_endLoop (P := P) hl (by rw [hrec]; simp); rw [hrec] at this; exact this, hdone _ _ (put _ (abI N) _ _ hi) (Nat.le_refl _) ((World.putObj_heap_other (by omega)).trans hk)⟩
    · exact ⟨some .ret, _, by have := run_endLoop (P := P) hl (by rw [hrec]; simp); rw [hrec] at this; exact this, hstop _ _ (abX _ _ _ _ (by omega) hi hl rfl) (Nat.le_refl _) ((World.putObj_heap_other (by omega)).trans hk)⟩
end Go.Proofs.Ytlohpphmamapeaa
