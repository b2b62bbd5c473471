/-
  The contracts of CountMaps and FirstMap of the program.
  Conditions: at most 2^20 rules, entries.
-/
import Derived.Test.YtlohpphmamapeaaMapS
namespace Go.Proofs.Ytlohpphmamapeaa
open Go Go.RowKit Go.Shelf
set_option linter.unusedVariables false
set_option linter.unusedSimpArgs false
attribute [local go_sem] Oper.semAt_some

/-- What the loop over the boxes keeps. -/
def MapsI (w : World) (B h m n : Nat) (SD SA : Value) (W : World) : Prop := B ≤ W.heap.size ∧ (W.cell? ⟨h, 0, none⟩ = some (.int .i64 (m : Int)) ∧ W.cell? ⟨h, 1, none⟩ = some SD ∧ W.cell? ⟨h + 1, 0, none⟩ = some (.int .i64 (n : Int)) ∧ W.cell? ⟨h + 1, 1, none⟩ = some SA) ∧ Below h w W
theorem MapsI.step {w W W' : World} {B h m n C : Nat} {SD SA : Value} (hi : MapsI w B h m n SD SA W) (hb : Below C W W') (hC : h + 2 ≤ C) : MapsI w B h m n SD SA W' := by
  obtain ⟨h1, ⟨a0, a1, b0, b1⟩, h2⟩ := hi
  have hs := hb.size
  exact ⟨by omega, ⟨cellBelow hb (by omega) a0, cellBelow hb (by omega) a1, cellBelow hb (by omega) b0, cellBelow hb (by omega) b1⟩, h2.trans (hb.mono (by omega))⟩
theorem grown_set {W w3 : World} (hb : Below W.heap.size W w3) (cb : Nat) (v : Value) : W.grownBy (w3.setCell ⟨cb, 0, none⟩ v) (some cb) :=
  ⟨hb.os, hb.tape, hb.output, by simpa using hb.size, fun k hk hne => (heap_setCell_other w3 ⟨cb, 0, none⟩ k v (fun e => hne (by simp [e]))).trans (hb.block k hk)⟩
set_option maxRecDepth 100000 in
set_option maxHeartbeats 2000000 in
theorem impl_CountMaps_no (k : Int) (D : Option Addr) (e0 : Nat) (rs : List M.Rule) (n0 : Int) (A : Option Addr) (c : Nat) (xs : List Int) (w : World) (hD : Rd w 2 D rs.length (ruls rs)) (hA : Rd w 1 A xs.length (ints xs)) (hl : rs.length ≤ 1048576) (hs : ∀ r ∈ rs, r.left.length ≤ 1048576 ∧ r.right.length ≤ 1048576) (hl1 : xs.length ≤ 1048576) (hm : M.isMapped k rs n0 xs = false) :
    Calls Try.prog 32 #[.agg #[.int .i64 k, .slice D rs.length e0], .agg #[.int .i64 n0, .slice A xs.length c]] w fun e w' => e = .returned (.int .i64 (-1)) ∧ Below w.heap.size w w' := by
  have BT := Lib.hid (below_two w (.cells #[.int .i64 k, .slice D rs.length e0] 28) (.cells #[.int .i64 n0, .slice A xs.length c] 40))
  have h1 := Lib.hid (isMapped_c k D e0 rs n0 A c xs _ (hD.below BT.out) (hA.below BT.out) hl hs hl1)
  rw [hm] at h1
  clear hD hA hl hs hl1 hm
  generalize xs.length = xl at *
  generalize rs.length = rl at *
  go_enter Try.func32, Try.ntmps32
  go_wp2_with fail
  refine h1.out.mono ?_
  rintro e w1 ⟨rfl, hb⟩
  go_wp2_with fail
  go_ret
  exact ⟨rfl, below_alloc2 hb⟩
set_option maxRecDepth 100000 in
set_option maxHeartbeats 4000000 in
theorem impl_CountMaps_yes (m n : Nat) (D : Option Addr) (e0 : Nat) (rs : List M.Rule) (A : Option Addr) (c : Nat) (xs : List Int) (w : World) (hD : Rd w 2 D rs.length (ruls rs)) (hA : Rd w 1 A xs.length (ints xs)) (hl : rs.length ≤ 1048576) (hs : ∀ r ∈ rs, r.left.length ≤ 1048576 ∧ r.right.length ≤ 1048576) (hl1 : xs.length ≤ 1048576) (hm : M.isMapped m rs n xs = true) (hmo : MapOk m rs n xs m n) (hN : n ^ m ≤ 4096) :
    Calls Try.prog 32 #[.agg #[.int .i64 (m : Int), .slice D rs.length e0], .agg #[.int .i64 (n : Int), .slice A xs.length c]] w fun e w' => e = .returned (.int .i64 ((M.countTo (M.fitsAt n m rs xs) (n ^ m) : Nat) : Int)) ∧ Below w.heap.size w w' := by
  have BT := Lib.hid (below_two w (.cells #[.int .i64 (m : Int), .slice D rs.length e0] 28) (.cells #[.int .i64 (n : Int), .slice A xs.length c] 40))
  have h1 := Lib.hid (isMapped_c m D e0 rs n A c xs _ (hD.below BT.out) (hA.below BT.out) hl hs hl1)
  rw [hm] at h1
  obtain ⟨f, hf⟩ : ∃ f, f = M.fitsAt n m rs xs := ⟨_, rfl⟩
  rw [← hf]
  have H3 := Lib.hid (show ∀ (i : Nat) (B : Option Addr) (d : Nat) (W : World), Rd W 1 A xs.length (ints xs) → Rd W 1 B m (ints (M.imgs n m i)) → Rd W 2 D rs.length (ruls rs) → Calls Try.prog 80 #[.agg #[.int .i64 (n : Int), .slice A xs.length c], .agg #[.int .i64 (m : Int), .slice D rs.length e0], .slice B m d] W (fun e w' => e = .returned (.bool (f i)) ∧ Below W.heap.size W w') from fun i B d W h1 h2 h3 => by
    have hil := imgs_len n m i
    have h := satisfies_c n A c xs B d (M.imgs n m i) hmo.n40.1 hmo.n40.2 hmo.len hmo.inp (by have := hmo.m4; omega) (imgs_inp hmo.n40.1 m i) m D e0 rs W h1 (by rw [hil]; exact h2) h3 hl (by rw [hil]; exact hmo.fit)
    rw [hil] at h
    rw [hf]
    exact h)
  have HA := Lib.hid hA
  have HD := Lib.hid hD
  have hm4 := hmo.m4
  have hn40 := hmo.n40
  have HCY := Lib.hid (fun i (h : f i = true) => count_yes (f := f) (i := i) h)
  have HCN := Lib.hid (fun i (h : f i = false) => count_no (f := f) (i := i) h)
  have HCL := Lib.hid (fun i => count_le f i)
  have HC0 := Lib.hid (show M.countTo f 0 = 0 from rfl)
  clear hD hA hl hs hl1 hm hmo hf
  generalize xs.length = xl at *
  generalize rs.length = rl at *
  refine (callsIn_wide (n := 3)).1 ?_
  refine callsIn_of_wp_marks Try.func32 rfl trivial ?_ rfl
  simp only [Try.ntmps32, List.size_toArray, List.length_cons, List.length_nil, Nat.reduceAdd, Nat.reduceSub, Array.replicate_succ, Array.replicate_zero, List.push_toArray, List.append_toArray, List.nil_append, List.cons_append]
  gi_wp2_with fail
  refine ⟨trivial, (callsIn_wide.2 h1.out).mono ?_⟩
  rintro e w1 ⟨rfl, hb⟩
  have a0 : w1.cell? ⟨w.heap.size, 0, none⟩ = some (.int .i64 (m : Int)) := cellKeep hb (by simp [go_sem])
  have a1 : w1.cell? ⟨w.heap.size, 1, none⟩ = some (.slice D rl e0) := cellKeep hb (by simp [go_sem])
  have b0 : w1.cell? ⟨w.heap.size + 1, 0, none⟩ = some (.int .i64 (n : Int)) := cellKeep hb (by simp [go_sem])
  have b1 : w1.cell? ⟨w.heap.size + 1, 1, none⟩ = some (.slice A xl c) := cellKeep hb (by simp [go_sem])
  have hs1 : w.heap.size + 2 ≤ w1.heap.size := by have := hb.size; simp at this; omega
  have T1 := Lib.hid (below_alloc2 hb)
  have A0 := Lib.hid a0
  have A1 := Lib.hid a1
  have B0 := Lib.hid b0
  have B1 := Lib.hid b1
  have q0 := fun o => allocKeep1 a0 o
  have q1 := fun o => allocKeep1 b0 o
  clear hb a1 b1
  gi_wp2_with fail
  clear q0 q1 a0 b0
  refine ⟨trivial, (callsIn_wide.2 (boxes_c _ _ _)).mono ?_⟩
  rintro e w2 ⟨rfl, rfl⟩
  gi_wp2_with fail
  obtain ⟨W2, hW2⟩ : ∃ W2 : World, W2 = ((w1.alloc (.cells #[.int .i64 0] 3)).alloc (.cells #[.int .i64 (m : Int)] 3)).alloc (.cells #[.int .i64 (n : Int)] 3) := ⟨_, rfl⟩
  obtain ⟨cb, hcb⟩ : ∃ cb, cb = w1.heap.size := ⟨_, rfl⟩
  obtain ⟨h, hh⟩ : ∃ h, h = w.heap.size := ⟨_, rfl⟩
  have HH := Lib.hid hh
  have HS2 := Lib.hid (show W2.heap.size = cb + 3 by rw [hW2, hcb]; simp)
  have BW := Lib.hid (show Below w1.heap.size w1 W2 by rw [hW2]; exact (((Below.refl _ _).alloc (Nat.le_refl _) _).alloc (by simp) _).alloc (by simp; omega) _)
  have I0 := Lib.hid (show MapsI w W2.heap.size h m n (.slice D rl e0) (.slice A xl c) W2 from MapsI.step (C := w1.heap.size) (B := W2.heap.size) (W := W2) ⟨Nat.le_refl _, by rw [hh]; exact ⟨cellKeep BW.out A0.out, cellKeep BW.out A1.out, cellKeep BW.out B0.out, cellKeep BW.out B1.out⟩, by rw [hh]; exact T1.out.trans (BW.out.mono T1.out.size)⟩ (Below.refl _ _) (by omega))
  have K0 := Lib.hid (show W2.cell? ⟨cb, 0, none⟩ = some (.int .i64 0) ∧ W2.frozen? ⟨cb, 0, none⟩ = false by rw [hW2, hcb]; constructor <;> simp [go_sem])
  have G1 := Lib.hid (show W2.cell? ⟨cb + 1, 0, none⟩ = some (.int .i64 (m : Int)) by rw [hW2, hcb]; simp [go_sem])
  have G2 := Lib.hid (show W2.cell? ⟨cb + 1 + 1, 0, none⟩ = some (.int .i64 (n : Int)) by rw [hW2, hcb]; simp [go_sem])
  have hcs : h + 2 ≤ cb := by rw [hh, hcb]; omega
  have HCB := Lib.hid hcb
  rw [← hW2, ← hcb, ← hh]
  have hsz : cb + 3 = W2.heap.size := HS2.out.symm
  clear hW2 hcb hh BW hs1
  refine wpIn_iterB (n := 3) (gf := 135) (lb := #[.pointer (some ⟨cb + 1, 0, none⟩), .pointer (some ⟨cb + 1 + 1, 0, none⟩)]) rfl (enters_of Try.func135 (by kernel_rfl) rfl) rfl (cb := some cb)
    (boxes1_in (3 - 1) m n (cb + 1) (cb + 1 + 1) (some cb) W2 hm4 hn40 G1.out G2.out (by simp) (by simp; omega) (fun k e => by injection e with e; omega)) (fun k e => by injection e with e; omega)
    (fun i W => MapsI w W2.heap.size h m n (.slice D rl e0) (.slice A xl c) W ∧ W.cell? ⟨cb, 0, none⟩ = some (.int .i64 ((M.countTo f i : Nat) : Int)) ∧ W.frozen? ⟨cb, 0, none⟩ = false) (fun _ => False)
    (fun i X Y row hI hg hr => by
      have hbl := below_of_grown hg hI.1.1 hr
      exact ⟨hI.1.step hbl (by omega), cellBelow hbl (by omega) hI.2.1, (hbl.frozen (p := ⟨cb, 0, none⟩) (by simp only; omega)).trans hI.2.2⟩)
    (fun X l o o' hl hI ho hc => hI) ⟨I0.out, by rw [HC0.out]; exact K0.out.1, K0.out.2⟩
    (fun v => { tmps := #[.agg #[.int .i64 (m : Int), .slice D rl e0], .agg #[.int .i64 (n : Int), .slice A xl c], .pointer (some ⟨h, 0, none⟩), .pointer (some ⟨h + 1, 0, none⟩), .int .i64 0, .pointer (some ⟨cb, 0, none⟩), v, .agg #[.int .i64 (m : Int), .slice D rl e0], .agg #[.int .i64 (n : Int), .slice A xl c], .bool true, .bool false, .pointer (some ⟨h, 0, none⟩), .int .i64 (m : Int), .pointer (some ⟨h + 1, 0, none⟩), .int .i64 (n : Int), .func (.func 135) #[] #[.pointer (some ⟨cb + 1, 0, none⟩), .pointer (some ⟨cb + 1 + 1, 0, none⟩)], v, undef, undef, undef, undef, undef, undef, undef], defers := [] }) ?assign ?body ?done ?stop
  case assign =>
    intro l v W K hK
    gi_wp2
    exact hK
  case body =>
    rintro l i r W hi ⟨hI, hc, hf⟩ hr hrd
    have HI := Lib.hid hI
    have RA := Lib.hid (HA.out.below (by have := hI.2.2; rw [HH.out] at this; exact this))
    have RD := Lib.hid (HD.out.below (by have := hI.2.2; rw [HH.out] at this; exact this))
    have RB := Lib.hid hrd
    obtain ⟨hBs, ⟨a0, a1, b0, b1⟩, _⟩ := hI
    have h3 := Lib.hid (H3.out i)
    have hcl := HCL.out i
    cases hfi : f i with
    | true =>
      have HS := Lib.hid (HCY.out i hfi)
      rw [hfi] at h3
      clear hfi hrd
      have HC := Lib.hid hc
      have HF := Lib.hid hf
      clear hc hf
      gi_wp2_with fail
      refine ⟨trivial, (CallsIn.inRound l (callsIn_wide.2 (h3.out _ _ _ RA.out RB.out RD.out))).mono ?_⟩
      rintro e w3 ⟨rfl, hb⟩
      have c3 := cellKeep hb HC.out
      have hlt : cb < W.heap.size := by omega
      have f3 : w3.frozen? ⟨cb, 0, none⟩ = false := ((bcell hb).2 _ _ hlt).trans HF.out
      have HB := Lib.hid hb
      have C3 := Lib.hid c3
      have F3 := Lib.hid f3
      clear hb a0 a1 b0 b1
      have hcn : M.countTo f i ≤ 4096 := by omega
      have HV := Lib.hid (show ((M.countTo f (i + 1) : Nat) : Int) = ((M.countTo f i : Nat) : Int) + 1 by rw [HS.out]; omega)
      generalize M.countTo f i = v at *
      gi_wp2
      refine ⟨grown_set HB.out cb _, (HI.out.step HB.out (by omega)).step (C := cb) ((Below.refl cb w3).setCell (Nat.le_refl _) _) hcs, ?_, ?_⟩
      · rw [HV.out]; exact cell_set_eq _ C3.out
      · rw [World.frozen?_setCell]; exact F3.out
    | false =>
      have HS := Lib.hid (HCN.out i hfi)
      rw [hfi] at h3
      clear hfi hrd
      have HC := Lib.hid hc
      have HF := Lib.hid hf
      clear hc hf
      gi_wp2_with fail
      refine ⟨trivial, (CallsIn.inRound l (callsIn_wide.2 (h3.out _ _ _ RA.out RB.out RD.out))).mono ?_⟩
      rintro e w3 ⟨rfl, hb⟩
      have hlt : cb < W.heap.size := by omega
      have HB := Lib.hid hb
      have C3 := Lib.hid (cellKeep hb HC.out)
      have F3 := Lib.hid (show w3.frozen? ⟨cb, 0, none⟩ = false from ((bcell hb).2 _ _ hlt).trans HF.out)
      clear hb a0 a1 b0 b1
      gi_wp2
      exact ⟨grown_of_below HB.out _, HI.out.step HB.out (by omega), by rw [HS.out]; exact C3.out, F3.out⟩
  case done =>
    rintro E W ⟨hI, hc, hf⟩ hE hK
    have HK := Lib.hid hK
    have HI := Lib.hid hI
    clear hI hK
    gi_wp2
    refine ⟨by simp, .inl ⟨_, _, rfl, run_takeDeferred HK.out, ?_⟩⟩
    refine ⟨_, results_tmp rfl _ _ _, rfl, ?_⟩
    have hbb := HI.out.2.2
    rw [HH.out] at hbb
    exact hbb.trans (belowK_b (w := w) (Nat.le_refl _) W E _ _ (by have := HH.out; omega) HK.out rfl rfl)
  case stop =>
    rintro E W h _ _
    exact h.elim
theorem le_foldMax : ∀ (l : List Int) (a : Int), a ≤ l.foldl max a ∧ ∀ z ∈ l, z ≤ l.foldl max a
  | [], a => ⟨Int.le_refl _, fun z h => by simp at h⟩
  | x :: l, a => by
    rw [List.foldl_cons]
    obtain ⟨h1, h2⟩ := le_foldMax l (max a x)
    refine ⟨by omega, fun z hz => ?_⟩
    rcases List.mem_cons.1 hz with rfl | hz
    · omega
    · exact h2 z hz
theorem maxOf_zero (m : Nat) : Lib.maxOf (List.replicate m 0) = 0 := by
  unfold Lib.maxOf
  have h : ∀ m : Nat, (List.replicate m (0 : Int)).foldl max 0 = 0 := fun m => by
    induction m with
    | zero => rfl
    | succ m ih => rw [List.replicate_succ, List.foldl_cons]; exact ih
  cases m with
  | zero => rfl
  | succ m => exact h (m + 1)
theorem maxOf_pos {n m i : Nat} (hn : 0 < n) (hi : i < n ^ m) (h0 : i ≠ 0) : 0 < Lib.maxOf (M.imgs n m i) := by
  rcases Int.lt_or_le 0 (Lib.maxOf (M.imgs n m i)) with h | h
  · exact h
  · exfalso
    apply h0
    refine box_pos hn hi fun z hz => ?_
    have h1 := (imgs_in hn m i z hz).1
    have h2 : z ≤ Lib.maxOf (M.imgs n m i) := (le_foldMax _ _).2 z hz
    omega
theorem own_put' {X : World} {base n : Nat} {A : Option Addr} {xs : List Value} (h : Own X base 1 A n xs) {l : Nat} {o o' : Obj} (ho : X.heap[l]? = some o) (hc : o.isCells = false) : Own (X.putObj l o') base 1 A n xs := by
  refine h.grown (grownBy_putObj' X l o') fun g hg e => ?_
  injection e with e
  subst e
  obtain ⟨hn, ad, rfl, rfl⟩ := blk_some hg
  obtain ⟨g, oo, cur, E, hA, _, hgg, _⟩ := h.2 hn
  injection hA with hA
  subst hA
  simp only at ho
  rw [hgg] at ho
  injection ho with ho
  subst ho
  simp [Obj.isCells] at hc
theorem cell_put {X : World} {b : Nat} {u : Value} (h : X.cell? ⟨b, 0, none⟩ = some u) {l : Nat} {o' : Obj} (hl : b ≠ l) : (X.putObj l o').cell? ⟨b, 0, none⟩ = some u :=
  (grownBy_putObj' X l o').cell (a := ⟨b, 0, none⟩) h (by simpa using hl)
theorem two_set {w : World} {b1 b2 : Nat} {u1 u2 : Value} (h : b1 ≠ b2) (d1 : w.cell? ⟨b1, 0, none⟩ = some u1) (d2 : w.cell? ⟨b2, 0, none⟩ = some u2) (v1 v2 : Value) : ((w.setCell ⟨b1, 0, none⟩ v1).setCell ⟨b2, 0, none⟩ v2).cell? ⟨b1, 0, none⟩ = some v1 ∧ ((w.setCell ⟨b1, 0, none⟩ v1).setCell ⟨b2, 0, none⟩ v2).cell? ⟨b2, 0, none⟩ = some v2 :=
  ⟨(cell_set_ne _ (Or.inl (Ne.symm h))).trans (cell_set_eq _ d1), cell_set_eq _ ((cell_set_ne _ (Or.inl h)).trans d2)⟩
set_option maxRecDepth 100000 in
set_option maxHeartbeats 2000000 in
theorem impl_FirstMap_no (k : Int) (D : Option Addr) (e0 : Nat) (rs : List M.Rule) (n0 : Int) (A : Option Addr) (c : Nat) (xs : List Int) (w : World) (hD : Rd w 2 D rs.length (ruls rs)) (hA : Rd w 1 A xs.length (ints xs)) (hl : rs.length ≤ 1048576) (hs : ∀ r ∈ rs, r.left.length ≤ 1048576 ∧ r.right.length ≤ 1048576) (hl1 : xs.length ≤ 1048576) (hm : M.isMapped k rs n0 xs = false) :
    Calls Try.prog 34 #[.agg #[.int .i64 k, .slice D rs.length e0], .agg #[.int .i64 n0, .slice A xs.length c]] w (RetFM ([], false) w) := by
  have BT := Lib.hid (((below_two w (.cells #[.int .i64 k, .slice D rs.length e0] 28) (.cells #[.int .i64 n0, .slice A xs.length c] 40)).alloc (by simp <;> omega) (.cells #[.slice none 0 0] 35)).alloc (by simp <;> omega) (.cells #[.bool false] 4))
  have h1 := Lib.hid (isMapped_c k D e0 rs n0 A c xs _ (hD.below BT.out) (hA.below BT.out) hl hs hl1)
  rw [hm] at h1
  clear hD hA hl hs hl1 hm
  generalize xs.length = xl at *
  generalize rs.length = rl at *
  go_enter Try.func34, Try.ntmps34
  go_wp2_with fail
  refine h1.out.mono ?_
  rintro e w1 ⟨rfl, hb⟩
  have d1 : w1.cell? ⟨w.heap.size + 1 + 1, 0, none⟩ = some (.slice none 0 0) := cellKeep hb (by simp [go_sem])
  have d2 : w1.cell? ⟨w.heap.size + 1 + 1 + 1, 0, none⟩ = some (.bool false) := cellKeep hb (by simp [go_sem])
  have f1 : w1.frozen? ⟨w.heap.size + 1 + 1, 0, none⟩ = false := ((bcell hb).2 _ _ (by simp)).trans (by simp [go_sem])
  have f2 : w1.frozen? ⟨w.heap.size + 1 + 1 + 1, 0, none⟩ = false := ((bcell hb).2 _ _ (by simp)).trans (by simp [go_sem])
  have HB := Lib.hid (BT.out.trans (hb.mono BT.out.size))
  have HT := Lib.hid (two_set (by omega) d1 d2 (.slice none 0 0) (.bool false))
  clear hb
  go_wp2_with fail
  refine bodyPost_ret (v := .tuple #[.slice none 0 0, .bool false]) ?_ rfl ?_
  · simp [results, Try.results34, go_sem, HT.out.1, HT.out.2]
  · exact retFM_none rfl ((HB.out.setCell (by simp <;> omega) _).setCell (by simp <;> omega) _)
set_option maxRecDepth 100000 in
set_option maxHeartbeats 4000000 in
theorem impl_FirstMap_yes (m n : Nat) (D : Option Addr) (e0 : Nat) (rs : List M.Rule) (A : Option Addr) (c : Nat) (xs : List Int) (w : World) (hD : Rd w 2 D rs.length (ruls rs)) (hA : Rd w 1 A xs.length (ints xs)) (hl : rs.length ≤ 1048576) (hs : ∀ r ∈ rs, r.left.length ≤ 1048576 ∧ r.right.length ≤ 1048576) (hl1 : xs.length ≤ 1048576) (hm : M.isMapped m rs n xs = true) (hmo : MapOk m rs n xs m n) (hN : n ^ m ≤ 4096) :
    Calls Try.prog 34 #[.agg #[.int .i64 (m : Int), .slice D rs.length e0], .agg #[.int .i64 (n : Int), .slice A xs.length c]] w (RetFM (M.FirstMap m rs n xs) w) := by
  have BT := Lib.hid (((below_two w (.cells #[.int .i64 (m : Int), .slice D rs.length e0] 28) (.cells #[.int .i64 (n : Int), .slice A xs.length c] 40)).alloc (by simp <;> omega) (.cells #[.slice none 0 0] 35)).alloc (by simp <;> omega) (.cells #[.bool false] 4))
  have h1 := Lib.hid (isMapped_c m D e0 rs n A c xs _ (hD.below BT.out) (hA.below BT.out) hl hs hl1)
  rw [hm] at h1
  obtain ⟨f, hf⟩ : ∃ f, f = M.fitsAt n m rs xs := ⟨_, rfl⟩
  obtain ⟨res, hres⟩ : ∃ res, res = M.FirstMap m rs n xs := ⟨_, rfl⟩
  rw [← hres]
  have HRN := Lib.hid (show M.firstFrom f 1 (n ^ m - 1) = none → res = ([], false) from fun h => by rw [hres]; exact firstMap_none hm (by rw [← hf]; exact h))
  have HRS := Lib.hid (show ∀ i, M.firstFrom f 1 (n ^ m - 1) = some i → res = (M.imgs n m i, true) from fun i h => by rw [hres]; exact firstMap_some hm (by rw [← hf]; exact h))
  have H3 := Lib.hid (show ∀ (i : Nat) (B : Option Addr) (d : Nat) (W : World), Rd W 1 A xs.length (ints xs) → Rd W 1 B m (ints (M.imgs n m i)) → Rd W 2 D rs.length (ruls rs) → Calls Try.prog 80 #[.agg #[.int .i64 (n : Int), .slice A xs.length c], .agg #[.int .i64 (m : Int), .slice D rs.length e0], .slice B m d] W (fun e w' => e = .returned (.bool (f i)) ∧ Below W.heap.size W w') from fun i B d W h1 h2 h3 => by
    have hil := imgs_len n m i
    have h := satisfies_c n A c xs B d (M.imgs n m i) hmo.n40.1 hmo.n40.2 hmo.len hmo.inp (by have := hmo.m4; omega) (imgs_inp hmo.n40.1 m i) m D e0 rs W h1 (by rw [hil]; exact h2) h3 hl (by rw [hil]; exact hmo.fit)
    rw [hil] at h
    rw [hf]
    exact h)
  have HA := Lib.hid hA
  have HD := Lib.hid hD
  have hm4 := hmo.m4
  have hn40 := hmo.n40
  have HIL := Lib.hid (fun i => imgs_len n m i)
  have HMZ := Lib.hid (show Lib.maxOf (M.imgs n m 0) = 0 by rw [imgs_zero]; exact maxOf_zero m)
  have HMP := Lib.hid (fun i (h : i < n ^ m) (h0 : i ≠ 0) => maxOf_pos (show 0 < n by omega) h h0)
  have HMX := Lib.hid (fun (b i : Nat) (W : World) (h : Rd W 1 (some ⟨b, 0, none⟩) m (ints (M.imgs n m i))) => show Calls Try.prog 81 #[.slice (some ⟨b, 0, none⟩) m m] W (fun e w' => e = .returned (.int .i64 (Lib.maxOf (M.imgs n m i))) ∧ w' = W) from by
    obtain ⟨b', o', e, hcs⟩ := h.2 (by omega)
    injection e with e
    injection e with e1 e2
    subst e1; subst e2
    have hil := imgs_len n m i
    have hx := Try.slices_Max_int b 0 m m (M.imgs n m i) W (by omega) (by omega) (by omega) (fun j hj => by
      rw [hcs j _ (ints_at hj), List.getD_eq_getElem?_getD, List.getElem?_eq_getElem hj]
      rfl)
    rw [List.take_of_length_le (by omega)] at hx
    exact hx)
  have HCL := Lib.hid (fun (b i : Nat) (W : World) (h : Rd W 1 (some ⟨b, 0, none⟩) m (ints (M.imgs n m i))) => show Calls Try.prog 82 #[.slice (some ⟨b, 0, none⟩) m m] W (RetRd (fun A c => .slice A m c) 1 m (ints (M.imgs n m i)) W) from by
    obtain ⟨b', o', e, hcs⟩ := h.2 (by omega)
    injection e with e
    injection e with e1 e2
    subst e1; subst e2
    have hil := imgs_len n m i
    refine (Try.slices_Clone_int b 0 m m (M.imgs n m i) W (by omega) (by omega) (fun j hj => by
      rw [hcs j _ (ints_at hj), List.getD_eq_getElem?_getD, List.getElem?_eq_getElem hj]
      rfl)).mono ?_
    rintro e w' ⟨v', rfl, ho, _, hb⟩
    rw [List.take_of_length_le (by omega)] at ho
    obtain ⟨A', c', rfl⟩ := own_slice ho
    have hsl : ∃ c'', Value.slice A' m c'' = Value.slice A' m c' := ⟨c', rfl⟩
    exact ⟨A', c', rfl, Own.of_row ho, hb⟩)
  clear hD hA hl hs hl1 hm hmo hf hres
  generalize xs.length = xl at *
  generalize rs.length = rl at *
  have hN1 : 0 < n ^ m := Nat.pow_pos (by omega)
  refine (callsIn_wide (n := 3)).1 ?_
  refine callsIn_of_wp_marks Try.func34 rfl trivial ?_ rfl
  simp only [Try.ntmps34, List.size_toArray, List.length_cons, List.length_nil, Nat.reduceAdd, Nat.reduceSub, Array.replicate_succ, Array.replicate_zero, List.push_toArray, List.append_toArray, List.nil_append, List.cons_append]
  gi_wp2_with fail
  refine ⟨trivial, (callsIn_wide.2 h1.out).mono ?_⟩
  rintro e w1 ⟨rfl, hb⟩
  have a0 : w1.cell? ⟨w.heap.size, 0, none⟩ = some (.int .i64 (m : Int)) := cellKeep hb (by simp [go_sem])
  have a1 : w1.cell? ⟨w.heap.size, 1, none⟩ = some (.slice D rl e0) := cellKeep hb (by simp [go_sem])
  have b0 : w1.cell? ⟨w.heap.size + 1, 0, none⟩ = some (.int .i64 (n : Int)) := cellKeep hb (by simp [go_sem])
  have b1 : w1.cell? ⟨w.heap.size + 1, 1, none⟩ = some (.slice A xl c) := cellKeep hb (by simp [go_sem])
  have d1 : w1.cell? ⟨w.heap.size + 1 + 1, 0, none⟩ = some (.slice none 0 0) := cellKeep hb (by simp [go_sem])
  have d2 : w1.cell? ⟨w.heap.size + 1 + 1 + 1, 0, none⟩ = some (.bool false) := cellKeep hb (by simp [go_sem])
  have f1 : w1.frozen? ⟨w.heap.size + 1 + 1, 0, none⟩ = false := ((bcell hb).2 _ _ (by simp)).trans (by simp [go_sem])
  have f2 : w1.frozen? ⟨w.heap.size + 1 + 1 + 1, 0, none⟩ = false := ((bcell hb).2 _ _ (by simp)).trans (by simp [go_sem])
  have hs1 : w.heap.size + 4 ≤ w1.heap.size := by have := hb.size; simp at this; omega
  have T1 := Lib.hid (BT.out.trans (hb.mono BT.out.size))
  have A0 := Lib.hid a0
  have A1 := Lib.hid a1
  have B0 := Lib.hid b0
  have B1 := Lib.hid b1
  have D1 := Lib.hid d1
  have D2 := Lib.hid d2
  have F1 := Lib.hid f1
  have F2 := Lib.hid f2
  clear hb a1 b1 d1 d2 f1 f2
  gi_wp2_with fail
  clear a0 b0
  refine ⟨trivial, (callsIn_wide.2 (boxes_c _ _ _)).mono ?_⟩
  rintro e w2 ⟨rfl, rfl⟩
  gi_wp2_with fail
  obtain ⟨W2, hW2⟩ : ∃ W2 : World, W2 = (w1.alloc (.cells #[.int .i64 (m : Int)] 3)).alloc (.cells #[.int .i64 (n : Int)] 3) := ⟨_, rfl⟩
  obtain ⟨cb, hcb⟩ : ∃ cb, cb = w1.heap.size := ⟨_, rfl⟩
  obtain ⟨h, hh⟩ : ∃ h, h = w.heap.size := ⟨_, rfl⟩
  have HH := Lib.hid hh
  have HS2 := Lib.hid (show W2.heap.size = cb + 2 by rw [hW2, hcb]; simp)
  have BW := Lib.hid (show Below w1.heap.size w1 W2 by rw [hW2]; exact ((Below.refl _ _).alloc (Nat.le_refl _) _).alloc (by simp) _)
  have I0 := Lib.hid (show MapsI w W2.heap.size h m n (.slice D rl e0) (.slice A xl c) W2 from MapsI.step (C := w1.heap.size) (B := W2.heap.size) (W := W2) ⟨Nat.le_refl _, by rw [hh]; exact ⟨cellKeep BW.out A0.out, cellKeep BW.out A1.out, cellKeep BW.out B0.out, cellKeep BW.out B1.out⟩, by rw [hh]; exact T1.out.trans (BW.out.mono T1.out.size)⟩ (Below.refl _ _) (by omega))
  have K1 := Lib.hid (show W2.cell? ⟨h + 1 + 1, 0, none⟩ = some (.slice none 0 0) ∧ W2.frozen? ⟨h + 1 + 1, 0, none⟩ = false by rw [hh]; exact ⟨cellKeep BW.out D1.out, ((bcell BW.out).2 _ _ (by omega)).trans F1.out⟩)
  have K2 := Lib.hid (show W2.cell? ⟨h + 1 + 1 + 1, 0, none⟩ = some (.bool false) ∧ W2.frozen? ⟨h + 1 + 1 + 1, 0, none⟩ = false by rw [hh]; exact ⟨cellKeep BW.out D2.out, ((bcell BW.out).2 _ _ (by omega)).trans F2.out⟩)
  have G1 := Lib.hid (show W2.cell? ⟨cb, 0, none⟩ = some (.int .i64 (m : Int)) by rw [hW2, hcb]; simp [go_sem])
  have G2 := Lib.hid (show W2.cell? ⟨cb + 1, 0, none⟩ = some (.int .i64 (n : Int)) by rw [hW2, hcb]; simp [go_sem])
  have hcs : h + 4 ≤ cb := by rw [hh, hcb]; omega
  rw [← hW2, ← hcb, ← hh]
  have hsz : cb + 2 = W2.heap.size := HS2.out.symm
  clear hW2 hcb hh BW hs1
  refine wpIn_iterB (n := 3) (gf := 135) (lb := #[.pointer (some ⟨cb, 0, none⟩), .pointer (some ⟨cb + 1, 0, none⟩)]) rfl (enters_of Try.func135 (by kernel_rfl) rfl) rfl (cb := none)
    (boxes1_in (3 - 1) m n cb (cb + 1) none W2 hm4 hn40 G1.out G2.out (by simp) (by simp) (fun k e => by cases e)) (fun k e => by cases e)
    (fun i W => MapsI w W2.heap.size h m n (.slice D rl e0) (.slice A xl c) W ∧ (W.cell? ⟨h + 1 + 1, 0, none⟩ = some (.slice none 0 0) ∧ W.frozen? ⟨h + 1 + 1, 0, none⟩ = false) ∧ (W.cell? ⟨h + 1 + 1 + 1, 0, none⟩ = some (.bool false) ∧ W.frozen? ⟨h + 1 + 1 + 1, 0, none⟩ = false) ∧ M.firstFrom f 1 (n ^ m - 1) = M.firstFrom f (max i 1) (n ^ m - max i 1))
    (fun W => ∃ i A' c', M.firstFrom f 1 (n ^ m - 1) = some i ∧ W.cell? ⟨h + 1 + 1, 0, none⟩ = some (.slice A' m c') ∧ W.cell? ⟨h + 1 + 1 + 1, 0, none⟩ = some (.bool true) ∧ Own W h 1 A' m (ints (M.imgs n m i)) ∧ Below h w W ∧ h ≤ W.heap.size)
    (fun i X Y row hI hg hr => by
      have hbl := below_of_grown hg hI.1.1 hr
      exact ⟨hI.1.step hbl (by omega), ⟨cellBelow hbl (by omega) hI.2.1.1, (hbl.frozen (p := ⟨h + 1 + 1, 0, none⟩) (by simp only; omega)).trans hI.2.1.2⟩, ⟨cellBelow hbl (by omega) hI.2.2.1.1, (hbl.frozen (p := ⟨h + 1 + 1 + 1, 0, none⟩) (by simp only; omega)).trans hI.2.2.1.2⟩, hI.2.2.2⟩)
    (fun X l o o' hl hI ho hc => by
      obtain ⟨i, A', c', e1, e2, e3, e4, e5, e6⟩ := hI
      exact ⟨i, A', c', e1, cell_put e2 (by omega), cell_put e3 (by omega), own_put' e4 ho hc, e5.grown (grownBy_putObj' X l o') e6 (fun k e => by cases e; omega), by simpa using e6⟩)
    ⟨I0.out, K1.out, K2.out, rfl⟩
    (fun v => { tmps := #[.agg #[.int .i64 (m : Int), .slice D rl e0], .agg #[.int .i64 (n : Int), .slice A xl c], .pointer (some ⟨h, 0, none⟩), .pointer (some ⟨h + 1, 0, none⟩), .pointer (some ⟨h + 1 + 1, 0, none⟩), .pointer (some ⟨h + 1 + 1 + 1, 0, none⟩), v, .agg #[.int .i64 (m : Int), .slice D rl e0], .agg #[.int .i64 (n : Int), .slice A xl c], .bool true, .bool false, .pointer (some ⟨h, 0, none⟩), .int .i64 (m : Int), .pointer (some ⟨h + 1, 0, none⟩), .int .i64 (n : Int), .func (.func 135) #[] #[.pointer (some ⟨cb, 0, none⟩), .pointer (some ⟨cb + 1, 0, none⟩)], v, undef, undef, undef, undef, undef, undef, undef, undef, undef, undef, undef], defers := [] }) ?assign ?body ?done ?stop
  case assign =>
    intro l v W K hK
    gi_wp2
    exact hK
  case body =>
    rintro l i r W hi ⟨hI, ⟨hc1, hf1⟩, ⟨hc2, hf2⟩, hff⟩ hr hrd
    have HI := Lib.hid hI
    have RA := Lib.hid (HA.out.below (by have := hI.2.2; rw [HH.out] at this; exact this))
    have RD := Lib.hid (HD.out.below (by have := hI.2.2; rw [HH.out] at this; exact this))
    have RB := Lib.hid hrd
    have C1 := Lib.hid hc1
    have C2 := Lib.hid hc2
    have F1' := Lib.hid hf1
    have F2' := Lib.hid hf2
    have FF := Lib.hid hff
    obtain ⟨hBs, ⟨a0, a1, b0, b1⟩, _⟩ := hI
    have h3 := Lib.hid (H3.out i)
    have hmx := Lib.hid (HMX.out r i W hrd)
    clear hc1 hc2 hf1 hf2 hff hrd
    by_cases hi0 : i = 0
    case pos =>
      subst hi0
      rw [HMZ.out] at hmx
      gi_wp2_with fail
      refine ⟨trivial, (CallsIn.inRound l (callsIn_wide.2 hmx.out)).mono ?_⟩
      rintro e w3 ⟨rfl, rfl⟩
      gi_wp2
      refine ⟨trivial, ?_⟩
      gi_wp2
      exact ⟨grown_of_below (Below.refl _ _) none, HI.out, ⟨C1.out, F1'.out⟩, ⟨C2.out, F2'.out⟩, FF.out⟩
    case neg =>
      have hmp := HMP.out i hi hi0
      have hmax : max i 1 = i := by omega
      rw [hmax] at FF
      generalize Lib.maxOf (M.imgs n m i) = mx at *
      cases hfi : f i with
      | true =>
        have HFS := Lib.hid (show M.firstFrom f 1 (n ^ m - 1) = some i by rw [FF.out]; exact first_hit' hfi (by omega))
        rw [hfi] at h3
        clear hfi hmax
        gi_wp2_with fail
        refine ⟨trivial, (CallsIn.inRound l (callsIn_wide.2 hmx.out)).mono ?_⟩
        rintro e w3 ⟨rfl, rfl⟩
        gi_wp2_with fail
        refine ⟨trivial, (CallsIn.inRound l (callsIn_wide.2 (h3.out _ _ _ RA.out RB.out RD.out))).mono ?_⟩
        rintro e w4 ⟨rfl, hb4⟩
        have hcl := Lib.hid (HCL.out r i w4 (RB.out.below hb4))
        have B4 := Lib.hid hb4
        clear hb4 a0 a1 b0 b1
        gi_wp2_with fail
        refine ⟨trivial, (CallsIn.inRound l (callsIn_wide.2 hcl.out)).mono ?_⟩
        rintro e w5 ⟨A5, c5, rfl, ho5, hb5⟩
        have B5 := Lib.hid (B4.out.trans (hb5.mono B4.out.size))
        have d1 := cellKeep B5.out C1.out
        have d2 := cellKeep B5.out C2.out
        have f1 : w5.frozen? ⟨h + 1 + 1, 0, none⟩ = false := ((bcell B5.out).2 _ _ (by omega)).trans F1'.out
        have f2 : w5.frozen? ⟨h + 1 + 1 + 1, 0, none⟩ = false := ((bcell B5.out).2 _ _ (by omega)).trans F2'.out
        have TS := Lib.hid (two_set (by omega) d1 d2 (.slice A5 m c5) (.bool true))
        have hb4s := B4.out.size
        have O5 := Lib.hid ((ho5.setLow (b := h + 1 + 1) (o := 0) (u := .slice A5 m c5) (by omega)).setLow (b := h + 1 + 1 + 1) (o := 0) (u := .bool true) (by omega))
        clear hb5 ho5
        gi_wp2
        have hb5s := B5.out.size
        have hbw := (HI.out.2.2.trans (B5.out.mono (by omega)))
        exact ⟨((KeepsOthers.of_grownBy (grown_of_below B5.out none) (fun j o e => by cases e)).trans (KeepsOthers.setCell _ _ _)).trans (KeepsOthers.setCell _ _ _), i, A5, c5, HFS.out, TS.out.1, TS.out.2, O5.out.mono (by omega), (hbw.setCell (by simp only; omega) _).setCell (by simp only; omega) _, by simp; omega⟩
      | false =>
        have HFS := Lib.hid (show M.firstFrom f 1 (n ^ m - 1) = M.firstFrom f (max (i + 1) 1) (n ^ m - max (i + 1) 1) by
          rw [FF.out, first_miss hfi (by omega), show max (i + 1) 1 = i + 1 by omega]
          congr 1)
        rw [hfi] at h3
        clear hfi hmax
        gi_wp2_with fail
        refine ⟨trivial, (CallsIn.inRound l (callsIn_wide.2 hmx.out)).mono ?_⟩
        rintro e w3 ⟨rfl, rfl⟩
        gi_wp2_with fail
        refine ⟨trivial, (CallsIn.inRound l (callsIn_wide.2 (h3.out _ _ _ RA.out RB.out RD.out))).mono ?_⟩
        rintro e w4 ⟨rfl, hb4⟩
        have B4 := Lib.hid hb4
        clear hb4 a0 a1 b0 b1
        gi_wp2
        exact ⟨grown_of_below B4.out none, HI.out.step B4.out (by omega), ⟨cellKeep B4.out C1.out, ((bcell B4.out).2 _ _ (by omega)).trans F1'.out⟩, ⟨cellKeep B4.out C2.out, ((bcell B4.out).2 _ _ (by omega)).trans F2'.out⟩, HFS.out⟩
  case done =>
    rintro E W ⟨hI, ⟨hc1, hf1⟩, ⟨hc2, hf2⟩, hff⟩ hE hK
    have HK := Lib.hid hK
    have HI := Lib.hid hI
    have TS := Lib.hid (two_set (by omega) hc1 hc2 (.slice none 0 0) (.bool false))
    have HRes := Lib.hid (HRN.out (by rw [hff, show max (n ^ m) 1 = n ^ m by omega, Nat.sub_self]; rfl))
    have HK' := Lib.hid (((KeepsOthers.setCell W ⟨h + 1 + 1, 0, none⟩ (.slice none 0 0)).trans (KeepsOthers.setCell _ ⟨h + 1 + 1 + 1, 0, none⟩ (.bool false))).same E _ HK.out rfl)
    have P1 := Lib.hid (cell_put (o' := .deferred none) TS.out.1 (l := E) (by omega))
    have P2 := Lib.hid (cell_put (o' := .deferred none) TS.out.2 (l := E) (by omega))
    clear hI hK hff
    gi_wp2
    refine ⟨by simp, .inl ⟨_, _, rfl, run_takeDeferred HK'.out, ?_⟩⟩
    refine ⟨.tuple #[.slice none 0 0, .bool false], by simp [results, Try.results34, go_sem, P1.out, P2.out], retFM_none HRes.out ?_⟩
    have hbb := HI.out.2.2
    rw [HH.out] at hbb
    have hw := HI.out.1
    have hhh := HH.out
    exact ((hbb.setCell (by simp only; omega) _).setCell (by simp only; omega) _).trans (belowK_b (w := w) (Nat.le_refl _) _ E _ _ (by omega) HK'.out rfl rfl)
  case stop =>
    rintro E W ⟨i, A', c', e1, e2, e3, e4, e5, e6⟩ hE hK
    have HRes := Lib.hid (HRS.out i e1)
    have HK := Lib.hid hK
    have P1 := Lib.hid (cell_put (o' := .deferred none) e2 (l := E) (by omega))
    have P2 := Lib.hid (cell_put (o' := .deferred none) e3 (l := E) (by omega))
    have O4 := Lib.hid (own_put' (o' := .deferred none) e4 hK rfl)
    have BE := Lib.hid e5
    clear e2 e3 e4 e5 hK
    gi_wp2
    refine ⟨by simp, .inl ⟨_, _, rfl, run_takeDeferred HK.out, ?_⟩⟩
    refine ⟨.tuple #[.slice A' m c', .bool true], by simp [results, Try.results34, go_sem, P1.out, P2.out], retFM_some HRes.out (HIL.out i) (O4.out.mono (by have := HH.out; omega)) ?_⟩
    have hbb := BE.out
    rw [HH.out] at hbb
    exact hbb.trans (belowK_b (w := w) (Nat.le_refl _) _ E _ _ (by have := HH.out; omega) HK.out rfl rfl)
theorem impl_CountMaps_c (k : Int) (D : Option Addr) (e0 : Nat) (rs : List M.Rule) (n0 : Int) (A : Option Addr) (c : Nat) (xs : List Int) (w : World) (hD : Rd w 2 D rs.length (ruls rs)) (hA : Rd w 1 A xs.length (ints xs)) (hl : rs.length ≤ 1048576) (hs : ∀ r ∈ rs, r.left.length ≤ 1048576 ∧ r.right.length ≤ 1048576) (hl1 : xs.length ≤ 1048576) :
    Calls Try.prog 32 #[.agg #[.int .i64 k, .slice D rs.length e0], .agg #[.int .i64 n0, .slice A xs.length c]] w fun e w' => e = .returned (.int .i64 (M.CountMaps k rs n0 xs)) ∧ Below w.heap.size w w' := by
  by_cases hmp : M.isMapped k rs n0 xs = true
  · obtain ⟨ho1, ho2⟩ := mapped_ok hmp
    obtain ⟨m, n, hmo⟩ := maps_of ho1 ho2 hs
    have hdec := mapped_yes ho1 ho2 hmo
    rw [hmp] at hdec
    have hN : n ^ m ≤ 4096 := of_decide_eq_true hdec.symm
    have e1 := hmo.hk
    have e2 := hmo.hn
    subst e1; subst e2
    have e : M.CountMaps m rs n xs = ((M.countTo (M.fitsAt n m rs xs) (n ^ m) : Nat) : Int) := by unfold M.CountMaps; rw [if_pos hmp]; rfl
    rw [e]
    exact impl_CountMaps_yes m n D e0 rs A c xs w hD hA hl hs hl1 hmp hmo hN
  · have e : M.CountMaps k rs n0 xs = -1 := by unfold M.CountMaps; rw [if_neg hmp]
    rw [e]
    exact impl_CountMaps_no k D e0 rs n0 A c xs w hD hA hl hs hl1 (by simpa using hmp)
theorem impl_FirstMap_c (k : Int) (D : Option Addr) (e0 : Nat) (rs : List M.Rule) (n0 : Int) (A : Option Addr) (c : Nat) (xs : List Int) (w : World) (hD : Rd w 2 D rs.length (ruls rs)) (hA : Rd w 1 A xs.length (ints xs)) (hl : rs.length ≤ 1048576) (hs : ∀ r ∈ rs, r.left.length ≤ 1048576 ∧ r.right.length ≤ 1048576) (hl1 : xs.length ≤ 1048576) :
    Calls Try.prog 34 #[.agg #[.int .i64 k, .slice D rs.length e0], .agg #[.int .i64 n0, .slice A xs.length c]] w (RetFM (M.FirstMap k rs n0 xs) w) := by
  by_cases hmp : M.isMapped k rs n0 xs = true
  · obtain ⟨ho1, ho2⟩ := mapped_ok hmp
    obtain ⟨m, n, hmo⟩ := maps_of ho1 ho2 hs
    have hdec := mapped_yes ho1 ho2 hmo
    rw [hmp] at hdec
    have hN : n ^ m ≤ 4096 := of_decide_eq_true hdec.symm
    have e1 := hmo.hk
    have e2 := hmo.hn
    subst e1; subst e2
    exact impl_FirstMap_yes m n D e0 rs A c xs w hD hA hl hs hl1 hmp hmo hN
  · rw [firstMap_no hmp]
    exact impl_FirstMap_no k D e0 rs n0 A c xs w hD hA hl hs hl1 (by simpa using hmp)
def RetFB (zs : List Int) (b : Bool) (w : World) (e : Ending) (w' : World) : Prop := ∃ A c, e = .returned (.tuple #[.slice A zs.length c, .bool b]) ∧ Own w' w.heap.size 1 A zs.length (ints zs) ∧ Below w.heap.size w w'
theorem retFB {P : Program} {f : FuncId} {args : Array Value} {w : World} {z : List Int × Bool} (h : Calls P f args w (RetFM z w)) : Calls P f args w (RetFB z.1 z.2 w) := h.mono fun _ _ h => h
theorem firstMap_len {k : Int} {rs : List M.Rule} {n0 : Int} {xs : List Int} (hs : ∀ r ∈ rs, r.left.length ≤ 1048576 ∧ r.right.length ≤ 1048576) : (M.FirstMap k rs n0 xs).1.length ≤ 4 := by
  by_cases hmp : M.isMapped k rs n0 xs = true
  · obtain ⟨ho1, ho2⟩ := mapped_ok hmp
    obtain ⟨m, n, hmo⟩ := maps_of ho1 ho2 hs
    have e1 := hmo.hk
    have e2 := hmo.hn
    subst e1; subst e2
    cases hf : M.firstFrom (M.fitsAt n m rs xs) 1 (n ^ m - 1) with
    | none => rw [firstMap_none hmp hf]; simp
    | some i => rw [firstMap_some hmp hf]; rw [imgs_len]; exact hmo.m4.2
  · rw [firstMap_no hmp]; simp
end Go.Proofs.Ytlohpphmamapeaa
