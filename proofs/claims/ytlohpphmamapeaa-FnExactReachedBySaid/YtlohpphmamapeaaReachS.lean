/-
  The contract of l11Words (the reference): which elements of a table a list of images reaches.
  Conditions: a valid table, one to four images in its range.
-/
import Derived.Test.YtlohpphmamapeaaReach
import Derived.Test.YtlohpphmamapeaaIdealS
import Derived.Test.YtlohpphmamapeaaMarkC
import Derived.BigQuiet
namespace Go.Proofs.Ytlohpphmamapeaa
open Go.RowKit
set_option linter.unusedVariables false
set_option linter.unusedSimpArgs false

def wrds (T : M.Tbl) : List Value := T.map fun o => Value.string ⟨(o.getD []).toArray⟩
def seen (n : Nat) (T : M.Tbl) : List Value := bls (fun z => (T.getD z none).isSome) n
theorem wrds_set (T : M.Tbl) (z : Nat) (u : List UInt8) : (wrds T).set z (.string ⟨u.toArray⟩) = wrds (T.set z (some u)) := by
  unfold wrds
  rw [List.map_set]
  rfl
theorem wrds_at {T : M.Tbl} {z : Nat} (h : z < T.length) : (wrds T)[z]? = some (.string ⟨((T.getD z none).getD []).toArray⟩) := by
  unfold wrds
  rw [List.getElem?_map, List.getD_eq_getElem?_getD, List.getElem?_eq_getElem h]
  rfl
theorem seen_at {n : Nat} {T : M.Tbl} {z : Nat} (h : z < n) : (seen n T)[z]? = some (.bool (T.getD z none).isSome) := bls_at _ h
theorem seen_set {n : Nat} {T : M.Tbl} {z : Nat} (u : List UInt8) (hz : z < T.length) : (seen n T).set z (.bool true) = seen n (T.set z (some u)) := by
  unfold seen
  rw [bls_set]
  refine bls_congr fun y _ => ?_
  rw [List.getD_eq_getElem?_getD, List.getD_eq_getElem?_getD, List.getElem?_set]
  by_cases h : y = z
  · subst h
    rw [if_pos rfl, if_pos hz, decide_eq_true rfl, Bool.or_true]
    rfl
  · rw [if_neg (fun e => h e.symm), decide_eq_false h, Bool.or_false]
theorem wrds_init {n : Nat} : List.replicate n (Value.string ⟨#[]⟩) = wrds (M.binit n).2 := by
  unfold M.binit
  rw [← wrds_set]
  unfold wrds
  rw [List.map_replicate]
  apply List.ext_getElem?
  intro j
  rw [List.getElem?_set]
  split
  · split
    · rename_i h1 h2
      subst h1
      rw [List.length_replicate] at h2
      rw [List.getElem?_replicate, if_pos h2]
    · rename_i h1 h2
      subst h1
      rw [List.length_replicate] at h2
      rw [List.getElem?_replicate, if_neg h2]
  · rfl
theorem seen_init {n : Nat} (hn : 1 ≤ n) : (bls (fun _ => false) n).set 0 (.bool true) = seen n (M.binit n).2 := by
  have e : bls (fun _ => false) n = seen n (List.replicate n none) := by
    unfold seen
    refine bls_congr fun z hz => ?_
    rw [List.getD_eq_getElem?_getD, List.getElem?_replicate, if_pos hz]
    rfl
  rw [e, seen_set (u := []) (by rw [List.length_replicate]; omega)]
  rfl
/-- The three rows of the reference's search. -/
structure RS (w : World) (B r1 r2 gq off c n m : Nat) (T1 T2 : List Value) (L : List Nat) : Prop where
  b1 : B ≤ r1
  b2 : r1 < r2
  o1 : Own w B 1 (some ⟨r1, 0, none⟩) n T1
  o2 : Own w B 1 (some ⟨r2, 0, none⟩) n T2
  q : OwnC w (r2 + 1) gq off m c (nqs L)
  hm : m = L.length
  pos : 0 < m
section
variable {w w' : World} {B r1 r2 gq off c n m : Nat} {T1 T2 : List Value} {L : List Nat}
theorem RS.below (h : RS w B r1 r2 gq off c n m T1 T2 L) (hb : Below w.heap.size w w') : RS w' B r1 r2 gq off c n m T1 T2 L := ⟨h.b1, h.b2, h.o1.below hb, h.o2.below hb, h.q.below hb, h.hm, h.pos⟩
theorem RS.gqr (h : RS w B r1 r2 gq off c n m T1 T2 L) : r2 < gq := by
  obtain ⟨cur, h1, _⟩ := h.q.2.2.2 (by have := h.q.2.1; have := h.pos; omega)
  exact h1
theorem own_set {w : World} {B r b j n : Nat} {T : List Value} {u : Value} (h : Own w B 1 (some ⟨r, 0, none⟩) n T) (hne : r ≠ b) : Own (w.setCell ⟨b, j, none⟩ u) B 1 (some ⟨r, 0, none⟩) n T :=
  h.grown (row := some b) ⟨rfl, rfl, rfl, by simp, fun k _ hk => heap_setCell_other w ⟨b, j, none⟩ k u (fun e => hk (by simp [e]))⟩ (fun g e => by
    obtain ⟨_, ad, e1, e2⟩ := blk_some e
    injection e1 with e1
    subst e1
    intro e3
    injection e3 with e3
    exact hne (by simpa using e2.trans e3))
theorem ownC_set {w : World} {B gq off m c b j : Nat} {T : List Value} {u : Value} (h : OwnC w B gq off m c T) (hne : gq ≠ b) : OwnC (w.setCell ⟨b, j, none⟩ u) B gq off m c T :=
  h.away (row := some b) ⟨rfl, rfl, rfl, by simp, fun k _ hk => heap_setCell_other w ⟨b, j, none⟩ k u (fun e => hk (by simp [e]))⟩ (by simpa using hne)
theorem RS.set1 (h : RS w B r1 r2 gq off c n m T1 T2 L) (hn : 0 < n) (z : Nat) (u : Value) : RS (w.setCell ⟨r1, z, none⟩ u) B r1 r2 gq off c n m (T1.set z u) T2 L :=
  ⟨h.b1, h.b2, (h.o1.at0 hn).2.2.2 z u, own_set h.o2 (by have := h.b2; omega), ownC_set h.q (by have := h.gqr; have := h.b2; omega), h.hm, h.pos⟩
theorem RS.set2 (h : RS w B r1 r2 gq off c n m T1 T2 L) (hn : 0 < n) (z : Nat) (u : Value) : RS (w.setCell ⟨r2, z, none⟩ u) B r1 r2 gq off c n m T1 (T2.set z u) L :=
  ⟨h.b1, h.b2, own_set h.o1 (by have := h.b2; omega), (h.o2.at0 hn).2.2.2 z u, ownC_set h.q (by have := h.gqr; omega), h.hm, h.pos⟩
theorem own_row {w w' : World} {B r g n : Nat} {T : List Value} (h : Own w B 1 (some ⟨r, 0, none⟩) n T) (hg : w.grownBy w' (some g)) (hne : r ≠ g) : Own w' B 1 (some ⟨r, 0, none⟩) n T :=
  h.grown hg (fun k e => by
    obtain ⟨_, ad, e1, e2⟩ := blk_some e
    injection e1 with e1
    subst e1
    intro e3
    injection e3 with e3
    exact hne (by simpa using e2.trans e3))
theorem RS.push (h : RS w B r1 r2 gq off c n m T1 T2 L) {z o' c' g' : Nat} (hq : OwnC w' (r2 + 1) g' o' (m + 1) c' (nqs L ++ [.int .i64 (z : Int)])) (hg : w.grownBy w' (some gq)) : RS w' B r1 r2 g' o' c' n (m + 1) T1 T2 (L ++ [z]) :=
  ⟨h.b1, h.b2, own_row h.o1 hg (by have := h.gqr; have := h.b2; omega), own_row h.o2 hg (by have := h.gqr; omega), by
    have e : nqs (L ++ [z]) = nqs L ++ [.int .i64 (z : Int)] := by rw [nqs_add]; rfl
    rw [e]
    exact hq, by have := h.hm; simp; omega, by omega⟩
theorem RS.elem (h : RS w B r1 r2 gq off c n m T1 T2 L) {a x : Nat} (hx : L[a]? = some x) : w.cell? ⟨gq, off + a, none⟩ = some (.int .i64 (x : Int)) := h.q.cell (by simp [nqs, hx])
theorem RS.first (hgq : gq = w.heap.size) (hr : B ≤ r1) (h12 : r1 < r2) (h1 : Own w B 1 (some ⟨r1, 0, none⟩) n T1) (h2 : Own w B 1 (some ⟨r2, 0, none⟩) n T2) (hrw : r2 < w.heap.size) : RS (w.alloc (.cells #[.int .i64 ((0 : Nat) : Int)] 3)) B r1 r2 gq 0 1 n 1 T1 T2 [0] := by
  subst hgq
  have hb := (Below.refl w.heap.size w).alloc (Nat.le_refl _) (.cells #[.int .i64 ((0 : Nat) : Int)] 3)
  exact ⟨hr, h12, h1.below hb, h2.below hb, OwnC.one w _ hrw, rfl, by omega⟩
end
theorem strZero : (Try.prog.info? 9).bind (·.zero) = some (.string ⟨#[]⟩) := by kernel_rfl
theorem make_strs {ops : Array Oper} {rest : List Oper} {o : Oper} {a : Act} {Q : Exit → Act → World → Prop} {w : World} (hgd : o.guard = none) (l : Operand) (ho : o.op = .makeSlice 90 l l)
    {kl : IntKind} {n : Nat} (hl : a.eval l = .int kl (n : Int)) (hn : n ≤ 1099511627776)
    (h : ∀ w', Own w' w.heap.size 1 (some ⟨w.heap.size, 0, none⟩) n (List.replicate n (.string ⟨#[]⟩)) → Below w.heap.size w w' → wpList Try.prog ops Q rest (a.put o.dst (.slice (some ⟨w.heap.size, 0, none⟩) n n)) w') : wpList Try.prog ops Q (o :: rest) a w := by
  obtain ⟨i, z, hi, hz, hsz, hby, hzs⟩ := slString.info
  have hzz : z = .string ⟨#[]⟩ := by
    have h1 := strZero
    rw [hi] at h1
    simp only [Option.bind_some, hz] at h1
    injection h1
  subst hzz
  refine wpList_make_full w hgd l l _ ho w.heap.size _ i _ 1 slString.und hi hz hsz kl kl n n n hl hl rfl rfl ?_ ?_ (Nat.le_refl _) ?_
  · have := Nat.mul_le_mul hby hn
    omega
  · simp only [maxLen]; omega
  · intro w' hown hg
    have hm : (madeCells (Value.string ⟨#[]⟩).cells (n * 1)).toList = List.replicate n (.string ⟨#[]⟩) := by
      apply List.ext_getElem?
      intro j
      by_cases hj : j < n
      · rw [List.getElem?_replicate, if_pos hj, Array.getElem?_toList]
        unfold madeCells
        simp [hj, Value.cells, Nat.mod_one]
      · rw [List.getElem?_eq_none (l := List.replicate n (Value.string ⟨#[]⟩)) (by simp; omega), Array.getElem?_toList, Array.getElem?_eq_none (by simp [madeCells]; omega)]
    rw [hm] at hown
    have ho := Own.of_row hown
    exact h w' ho ((Below.refl _ _).grown hg (Nat.le_refl _) (by simp))
theorem oneByteB (W : World) (g : Nat) (x : Int) (h0 : 0 ≤ x) (h : x < 256) (hc : W.cell? ⟨g, 0, none⟩ = some (.int .u8 x)) : (convert 75 9 (.slice (some ⟨g, 0, none⟩) 1 1)).run Try.prog W = .ok (.string ⟨[UInt8.ofNat x.toNat].toArray⟩) W := by
  have hx : ((UInt8.ofNat x.toNat).toNat : Int) = x := by
    rw [UInt8.toNat_ofNat']
    omega
  exact run_convert_bytes_back (P := Try.prog) W 75 9 5 ⟨g, 0, none⟩ 1 [UInt8.ofNat x.toNat] Try.underlying75 Try.underlying5 Try.underlying9 (fun j hj => by
    obtain rfl : j = 0 := by simpa using hj
    have ha : (⟨g, 0, none⟩ : Addr).add 0 = ⟨g, 0, none⟩ := rfl
    rw [ha, hc]
    simp only [List.getElem_cons_zero]
    rw [hx])
set_option maxRecDepth 100000 in
set_option maxHeartbeats 4000000 in
theorem l11Words_c (n : Nat) (A : Option Addr) (c : Nat) (xs : List Int) (D : Option Addr) (d : Nat) (ys : List Int) (w : World) (hA : Rd w 1 A xs.length (ints xs)) (hD : Rd w 1 D ys.length (ints ys)) (hn1 : 1 ≤ n) (hn : n ≤ 40) (hl : xs.length = n * n) (hP : M.InP n xs) (hy : ∀ j, j < ys.length → 0 ≤ M.tAt ys j ∧ M.tAt ys j < n) (hq1 : 1 ≤ ys.length) (hq : ys.length ≤ 4) :
    Calls Try.prog 69 #[.agg #[.int .i64 n, .slice A xs.length c], .slice D ys.length d] w fun e w' => ∃ r1 r2, e = .returned (.tuple #[.slice (some ⟨r1, 0, none⟩) n n, .slice (some ⟨r2, 0, none⟩) n n]) ∧ Own w' w.heap.size 1 (some ⟨r2, 0, none⟩) n (seen n (M.brun n xs ys n).2) ∧ Below w.heap.size w w' := by
  have HA := Lib.hid hA
  obtain ⟨bD, oD, rfl, hDc⟩ := hD.2 hq1
  have HT := Lib.hid (show ∀ (x y : Int) (W : World), Rd W 1 A xs.length (ints xs) → (0 ≤ x ∧ x < n) → (0 ≤ y ∧ y < n) → Calls Try.prog 126 #[.agg #[.int .i64 n, .slice A xs.length c], .int .i64 x, .int .i64 y] W (fun e w' => e = .returned (.int .i64 ((M.tI n xs x y).toNat : Int)) ∧ Below W.heap.size W w') from fun x y W h hx hy => (l08Times_c n A c xs x y W h hn hl hx hy).mono fun e w' ⟨he, hb⟩ => ⟨by rw [he, Int.toNat_of_nonneg (M.tI_in hP hl hx hy).1], hb⟩)
  have HZ := Lib.hid (show ∀ x j, x < n → j < ys.length → M.bz n xs ys x j < n from fun x j hx hj => by
    have h := M.tI_in hP hl (x := (x : Int)) (y := M.tAt ys j) (by omega) (hy j hj)
    unfold M.bz
    omega)
  have HBI := Lib.hid (brun_inv (n := n) (xs := xs) (ys := ys) hn1 HZ.out hq)
  clear hA hP
  have HXS := Lib.hid (show xs.length ≤ 1600 by have := M.sq_le hn; omega)
  clear hl
  have hHy := Lib.hid hy
  clear hy
  generalize hxl : xs.length = xl at *
  have HYA := Lib.hid (show ∀ j, j < ys.length → ∀ W, Below w.heap.size w W → W.cell? ⟨bD, oD + j, none⟩ = some (.int .i64 (M.tAt ys j)) from fun j h W hb => cellKeep hb (hDc j _ (by rw [ints_at h, M.tAt_eq h])))
  clear hDc hD
  have HST := Lib.hid (fun a x (h : (M.brun n xs ys a).1[a]? = some x) => brun_step h)
  have HRI := Lib.hid (fun a x (h : x ∈ (M.brun n xs ys a).1) => brow_inv (HBI.out a) (fun j hj => HZ.out x j ((HBI.out a).mem x h).1 hj) h hq)
  have HEN := Lib.hid (fun a (h : a ≤ n) hb => brun_end (xs := xs) (ys := ys) h hb)
  generalize hyl : ys.length = q at *
  have X0 := Lib.hid (show (w.alloc (.cells #[.int .i64 n, .slice A xl c] 40)).cell? ⟨w.heap.size, 0, none⟩ = some (.int .i64 n) by simp [go_sem])
  have X1 := Lib.hid (show (w.alloc (.cells #[.int .i64 n, .slice A xl c] 40)).cell? ⟨w.heap.size, 1, none⟩ = some (.slice A xl c) by simp [go_sem])
  have XT := Lib.hid (show Below w.heap.size w (w.alloc (.cells #[.int .i64 n, .slice A xl c] 40)) from (Below.refl _ _).alloc (Nat.le_refl _) _)
  have XS := Lib.hid (show (w.alloc (.cells #[.int .i64 n, .slice A xl c] 40)).heap.size = w.heap.size + 1 by simp)
  go_enter Try.func69, Try.ntmps69
  go_wp2_with (first
    | (at_make; refine make_strs rfl _ rfl rfl (by omega) ?_; intro w1 ho1 hb1; have c10 := cellKeep hb1 X0.out)
    | (at_make; refine make_bools rfl _ rfl rfl (by omega) ?_; intro w2 ho2 hb2; obtain ⟨hr2, hcs, hfs, hst⟩ := ho2.at0 hn1; have c20 := hcs 0 _ (bls_at _ hn1); have f20 := hfs 0))
  rw [XS.out] at ho1 hb1
  have HS2 := Lib.hid (hst 0 (.bool true))
  have HS1 := Lib.hid (own_set (b := w1.heap.size) (j := 0) (u := .bool true) (ho1.below hb2) (by have := (ho1.lt (w.heap.size + 1) (by unfold blk; rw [if_neg (by omega)]; rfl)).2; omega))
  have HRL := Lib.hid (show w.heap.size + 1 < w1.heap.size from (ho1.lt (w.heap.size + 1) (by unfold blk; rw [if_neg (by omega)]; rfl)).2)
  have HRM := Lib.hid (show w1.heap.size < w2.heap.size from (ho2.lt w1.heap.size (by unfold blk; rw [if_neg (by omega)]; rfl)).2)
  rw [seen_init hn1] at HS2
  rw [wrds_init] at HS1
  clear hcs hfs hst c20 f20
  have HX := Lib.hid (show Below (w.heap.size + 1) (w.alloc (.cells #[.int .i64 n, .slice A xl c] 40)) ((w2.setCell ⟨w1.heap.size, 0, none⟩ (.bool true)).alloc (.cells #[.int .i64 ((0 : Nat) : Int)] 3)) from by
    have h1 : Below (w.heap.size + 1) (w.alloc (.cells #[.int .i64 n, .slice A xl c] 40)) w2 := hb1.trans (hb2.mono (Nat.le_of_lt HRL.out))
    refine (h1.setCell (p := ⟨w1.heap.size, 0, none⟩) (Nat.le_of_lt HRL.out) _).alloc ?_ _
    have := HRL.out
    have := HRM.out
    simp
    omega)
  have HI0 := Lib.hid (RS.first (gq := w2.heap.size) (by simp) (Nat.le_refl _) HRL.out HS1.out (HS2.out.mono (Nat.le_of_lt HRL.out)) (by have := HRM.out; simpa using this))
  clear HS1 HS2 ho1 ho2 hb1 hb2 c10 hr2
  generalize hgw : w2.heap.size = gq0 at *
  generalize ((w2.setCell ⟨w1.heap.size, 0, none⟩ (.bool true)).alloc (.cells #[.int .i64 ((0 : Nat) : Int)] 3)) = w3 at *
  clear hgw HRM
  generalize hgw0 : w.alloc (.cells #[.int .i64 n, .slice A xl c] 40) = w0 at *
  clear hgw0
  generalize hgr2 : w1.heap.size = r2 at *
  clear hgr2
  go_loopw [8, 9] (fun s z wr => ∃ a m gq off cq : Nat, z = .int .i64 (a : Int) ∧ a ≤ m ∧ s = .slice (some ⟨gq, off, none⟩) m cq ∧ RS wr (w.heap.size + 1) (w.heap.size + 1) r2 gq off cq n m (wrds (M.brun n xs ys a).2) (seen n (M.brun n xs ys a).2) (M.brun n xs ys a).1 ∧ Below (w.heap.size + 1) w0 wr) (fun _ z _ => n - (intOf z).toNat)
  case atStart => exact ⟨0, 1, gq0, 0, 1, rfl, by omega, rfl, HI0.out, HX.out⟩
  case round =>
    obtain ⟨a, m, gq, off, cq, rfl, ham, rfl, hri, hb⟩ := hrel
    have HI := Lib.hid hri
    have HB := Lib.hid hb
    clear hri hb HI0 HX
    have hmn : m ≤ n := by have := HI.out.hm; have := (HBI.out a).le; omega
    by_cases hm : a < m
    case neg =>
      obtain rfl : a = m := by omega
      have HE := Lib.hid (HEN.out a hmn (by have := HI.out.hm; omega))
      go_wp2_with fail
      go_ret2
      exact ⟨w.heap.size + 1, r2, rfl, by rw [HE.out]; exact HI.out.o2.mono (Nat.le_succ _), XT.out.trans ((show Below w0.heap.size w0 wr by rw [XS.out]; exact HB.out).mono XT.out.size)⟩
    case pos =>
    have hLa : a < (M.brun n xs ys a).1.length := by have := HI.out.hm; omega
    obtain ⟨x, hx⟩ : ∃ x, (M.brun n xs ys a).1[a]? = some x := ⟨_, List.getElem?_eq_getElem hLa⟩
    have HXm := List.mem_of_getElem? hx
    have HS := Lib.hid (HST.out a x hx)
    have HR := Lib.hid (HRI.out a x HXm)
    have hxn : x < n := ((HBI.out a).mem x HXm).1
    have cx := HI.out.elem hx
    have HXs := Lib.hid (show ∀ j, j ≤ q → ((M.brow n xs ys x (M.brun n xs ys a) j).2.getD x none).isSome = true from fun j hj => ((HR.out j hj).1.mem x ((HR.out j hj).2.1 x HXm)).2)
    have HI0 := Lib.hid (show RS wr (w.heap.size + 1) (w.heap.size + 1) r2 gq off cq n m (wrds (M.brow n xs ys x (M.brun n xs ys a) 0).2) (seen n (M.brow n xs ys x (M.brun n xs ys a) 0).2) (M.brow n xs ys x (M.brun n xs ys a) 0).1 from HI.out)
    have HRB := Lib.hid (show ∀ j, j ≤ q → BInv n (M.brow n xs ys x (M.brun n xs ys a) j) from fun j hj => (HR.out j hj).1)
    have HSC := Lib.hid (show ∀ j, M.brow n xs ys x (M.brun n xs ys a) (j + 1) = M.bvis n xs ys x j (M.brow n xs ys x (M.brun n xs ys a) j) from fun j => rfl)
    have HLn := Lib.hid (show ∀ j, j ≤ q → a < (M.brow n xs ys x (M.brun n xs ys a) j).1.length from fun j hj => (List.getElem?_eq_some_iff.1 ((HR.out j hj).2.2 a x hx)).1)
    clear hx HXm hLa HR HI
    generalize M.brow n xs ys x (M.brun n xs ys a) = F at *
    go_wp2_with fail
    clear cx
    go_loopw [8, 35] (fun s y wr => ∃ j m gq off cq : Nat, j ≤ q ∧ y = .int .i64 (j : Int) ∧ s = .slice (some ⟨gq, off, none⟩) m cq ∧ RS wr (w.heap.size + 1) (w.heap.size + 1) r2 gq off cq n m (wrds (F j).2) (seen n (F j).2) (F j).1 ∧ Below (w.heap.size + 1) w0 wr) (fun _ y _ => q - (intOf y).toNat)
    case atStart => exact ⟨0, m, gq, off, cq, by omega, rfl, rfl, HI0.out, HB.out⟩
    case round =>
      obtain ⟨j, m, gq, off, cq, hj, rfl, rfl, hri, hb⟩ := hrel
      have HI := Lib.hid hri
      have HB := Lib.hid hb
      clear hri hb HI0
      by_cases hjq : j < q
      case neg =>
        obtain rfl : j = q := by omega
        have hlt := HLn.out j (Nat.le_refl _)
        have hm1 : a + 1 ≤ m := by have := HI.out.hm; omega
        go_wp2_with fail
        go_roundw
        case rel => exact ⟨a + 1, m, gq, off, cq, by go_num, hm1, rfl, by rw [HS.out]; exact HI.out, HB.out⟩
        case measure => simp [intOf] <;> omega
      case pos =>
      have hBk : Below w0.heap.size w0 wr := by rw [XS.out]; exact HB.out
      have c0 := cellKeep hBk X0.out
      have c1 := cellKeep hBk X1.out
      have RA := Lib.hid (HA.out.below (XT.out.trans (hBk.mono XT.out.size)))
      have d0 := HYA.out j hjq wr (XT.out.trans (hBk.mono XT.out.size))
      clear hBk
      have hyj := hHy.out j hjq
      have HTj := Lib.hid (show ∀ W, Rd W 1 A xl (ints xs) → Calls Try.prog 126 #[.agg #[.int .i64 n, .slice A xl c], .int .i64 (x : Int), .int .i64 (M.tAt ys j)] W (fun e w' => e = .returned (.int .i64 (M.bz n xs ys x j : Int)) ∧ Below W.heap.size W w') from fun W h => HT.out x (M.tAt ys j) W h (by omega) hyj)
      have hz := HZ.out x j hxn hjq
      have HSj := Lib.hid (show F (j + 1) = if ((F j).2.getD (M.bz n xs ys x j) none).isSome = true then F j else ((F j).1 ++ [M.bz n xs ys x j], (F j).2.set (M.bz n xs ys x j) (some (M.bword (F j).2 x j))) from HSC.out j)
      have HL := Lib.hid (HRB.out j hj)
      generalize M.bz n xs ys x j = z at *
      generalize M.tAt ys j = y at *
      clear hyj
      have hzi : (z : Int) < (n : Int) := by omega
      have CO := Lib.hid ((HI.out.o2.at0 (by omega)).2.1 z _ (seen_at (T := (F j).2) hz))
      go_wp2_with fail
      refine (HTj.out _ (RA.out)).mono ?_
      rintro e w4 ⟨rfl, hb5⟩
      have HI4 := Lib.hid (HI.out.below hb5)
      have HB4 := Lib.hid (HB.out.trans (hb5.mono (by have := XS.out; have := HB.out.size; omega)))
      have CO4 := Lib.hid (cellKeep hb5 CO.out)
      clear hb5 c0 c1 d0 CO HI HB RA
      obtain ⟨oz, hoz⟩ : ∃ oz, oz = (F j).2.getD z none := ⟨_, rfl⟩
      have HOZ := Lib.hid hoz
      rw [← hoz] at CO4 HSj
      clear hoz
      cases oz
      case some v =>
        have HSk := Lib.hid (show F (j + 1) = F j by rw [HSj.out]; rfl)
        have co : w4.cell? ⟨r2, z, none⟩ = some (.bool true) := CO4.out
        go_wp2_with fail
        go_roundw
        case rel => exact ⟨j + 1, m, gq, off, cq, by omega, by go_num, rfl, by rw [HSk.out]; exact HI4.out, HB4.out⟩
        case measure => simp [intOf] <;> omega
      case none =>
        have co : w4.cell? ⟨r2, z, none⟩ = some (.bool false) := CO4.out
        have fo := (HI4.out.o2.at0 (by omega)).2.2.1 z
        obtain ⟨u, hu⟩ := Option.isSome_iff_exists.1 (HXs.out j hj)
        have HSk := Lib.hid (show F (j + 1) = ((F j).1 ++ [z], (F j).2.set z (some (u ++ [UInt8.ofNat (97 + j)]))) by rw [HSj.out, if_neg (by simp)]; unfold M.bword; rw [hu]; rfl)
        obtain ⟨l, hl⟩ : ∃ l : UInt8, l = UInt8.ofNat (97 + j) := ⟨_, rfl⟩
        rw [← hl] at HSk
        have HI5 := Lib.hid (HI4.out.set2 (by omega) z (.bool true))
        rw [seen_set (u ++ [l]) (by rw [HL.out.len]; exact hz)] at HI5
        have HB5 := Lib.hid (HB4.out.setCell (p := ⟨r2, z, none⟩) (show w.heap.size + 1 ≤ r2 from Nat.le_of_lt HRL.out) (.bool true))
        have hul : u.length ≤ 40 := by
          have h := (HL.out.word x u (tbl_get hu)).2
          have := HL.out.le
          omega
        go_wp2_with fail
        clear co fo
        generalize w4.setCell ⟨r2, z, none⟩ (.bool true) = w5 at *
        have cx := (HI5.out.o1.at0 (by omega)).2.1 x _ (wrds_at (T := (F j).2) (z := x) (by rw [HL.out.len]; exact hxn))
        rw [hu] at cx
        have cx : w5.cell? ⟨w.heap.size + 1, x, none⟩ = some (.string ⟨u.toArray⟩) := cx
        have cz := (HI5.out.o1.at0 (by omega)).2.1 z _ (wrds_at (T := (F j).2) (z := z) (by rw [HL.out.len]; exact hz))
        have fz := (HI5.out.o1.at0 (by omega)).2.2.1 z
        have hxi : (x : Int) < (n : Int) := by omega
        have hca : ¬ 9223372036854775807 < u.length + 1 := by omega
        have hb0 : (0 : Int) ≤ 97 + (j : Int) := by omega
        have hb1 : 97 + (j : Int) < 256 := by omega
        have hc0 := oneByteB ((w5.alloc (.cells #[.int .u8 (97 + (j : Int))] 5)).drew) w5.heap.size _ hb0 hb1 (by simp [go_sem])
        have hcj : UInt8.ofNat (97 + (j : Int)).toNat = UInt8.ofNat (97 + j) := by congr 1
        rw [hcj, ← hl] at hc0
        have hwa : IntKind.i64.wrap (97 + (j : Int)) = 97 + (j : Int) := IntWalk.i64_in _ (by omega)
        have hwb : IntKind.u8.wrap (97 + (j : Int)) = 97 + (j : Int) := IntWalk.u8_in _ (by omega)
        clear hcj hu hl
        have HIa := Lib.hid (HI5.out.below ((Below.refl _ _).alloc (Nat.le_refl _) (.cells #[.int .u8 (97 + (j : Int))] 5)))
        have cxa := cellKeep ((Below.refl w5.heap.size w5).alloc (Nat.le_refl _) (.cells #[.int .u8 (97 + (j : Int))] 5)) cx
        have cza := cellKeep ((Below.refl w5.heap.size w5).alloc (Nat.le_refl _) (.cells #[.int .u8 (97 + (j : Int))] 5)) cz
        have fza := (HIa.out.o1.at0 (by omega)).2.2.1 z
        have HI6 := Lib.hid ((HIa.out.set1 (by omega) z (.string ⟨(u ++ [l]).toArray⟩)).below (Below.refl _ _).drew)
        rw [wrds_set] at HI6
        have HB6 := Lib.hid (((HB5.out.alloc (by have := XS.out; have := HB5.out.size; omega) (.cells #[.int .u8 (97 + (j : Int))] 5)).setCell (p := ⟨w.heap.size + 1, z, none⟩) (Nat.le_refl _) (.string ⟨(u ++ [l]).toArray⟩)).drew)
        go_region
        clear cxa cza fza cx cz fz hc0 HIa HI5 HB5
        generalize ((w5.alloc (Obj.cells #[.int .u8 (97 + (j : Int))] 5)).setCell ⟨w.heap.size + 1, z, none⟩ (.string ⟨(u ++ [l]).toArray⟩)).drew = w6 at *
        have HI7 := Lib.hid (HI6.out.below ((Below.refl _ _).alloc (Nat.le_refl _) (.cells #[.int .i64 (z : Int)] 3)))
        have HB7 := Lib.hid (HB6.out.alloc (by have := XS.out; have := HB6.out.size; omega) (.cells #[.int .i64 (z : Int)] 3))
        have HC7 := Lib.hid (show (w6.alloc (.cells #[.int .i64 (z : Int)] 3)).cell? ⟨w6.heap.size, 0, none⟩ = some (.int .i64 (z : Int)) by simp [go_sem])
        have hrs := (HI7.out.o2.lt r2 (by unfold blk; rw [if_neg (by omega)]; rfl)).2
        have HRS7 := Lib.hid (show r2 + 1 ≤ (w6.alloc (.cells #[.int .i64 (z : Int)] 3)).heap.size from hrs)
        have hm7 : m < 1048576 := by
          have := HI7.out.hm
          have := HL.out.le
          omega
        clear HI6 HB6 hrs
        go_wp2_with (at_builtin; refine push_off rfl (.tmp 65) (.tmp 67) rfl rfl HI7.out.q rfl HC7.out rfl HRS7.out hm7 ?_; intro g' o' c' w7 hq7 hg7)
        have HI8 := Lib.hid (HI7.out.push hq7 hg7)
        have HB8 := Lib.hid (HB7.out.grown hg7 (by have := XS.out; have := HB7.out.size; omega) (by have := HI7.out.gqr; have := HRL.out; simp; omega))
        go_roundw
        case rel => exact ⟨j + 1, m + 1, g', o', c', by omega, by go_num, rfl, by rw [HSk.out]; exact HI8.out, HB8.out⟩
        case measure => simp [intOf] <;> omega
end Go.Proofs.Ytlohpphmamapeaa
