/-
  Contracts of shortest (the program) : the least words of a table's elements.
  Conditions: a valid table, one to four images in its range.
-/
import Derived.Test.YtlohpphmamapeaaQueue
import Derived.Test.YtlohpphmamapeaaReachM
import Derived.Test.YtlohpphmamapeaaRepeat
import Derived.Test.YtlohpphmamapeaaTimes
import Derived.Test.YtlohpphmamapeaaLonger
import Derived.Test.YtlohpphmamapeaaIdeal
import Derived.Deep.LoopGhost
namespace Go.Proofs.Ytlohpphmamapeaa
open Go.RowKit
set_option linter.unusedVariables false
set_option linter.unusedSimpArgs false

def tbls (T : M.Tbl) : List Value := T.map fun o => Value.string ⟨(o.getD [45]).toArray⟩
def nqs (l : List Nat) : List Value := l.map fun (x : Nat) => Value.int .i64 (x : Int)
theorem nqs_add (a b : List Nat) : nqs (a ++ b) = nqs a ++ nqs b := by simp [nqs]
theorem nqs_head {l : List Nat} {a x : Nat} (h : l[a]? = some x) : (nqs (l.drop a))[0]? = some (.int .i64 (x : Int)) := by simp [nqs, h]
theorem tbls_set (T : M.Tbl) (z : Nat) (u : List UInt8) : (tbls T).set z (.string ⟨u.toArray⟩) = tbls (T.set z (some u)) := by
  unfold tbls
  rw [List.map_set]
  rfl
theorem tbls_at {T : M.Tbl} {z : Nat} (h : z < T.length) : (tbls T)[z]? = some (.string ⟨((T.getD z none).getD [45]).toArray⟩) := by
  unfold tbls
  rw [List.getElem?_map, List.getD_eq_getElem?_getD, List.getElem?_eq_getElem h]
  rfl
theorem tbls_len (T : M.Tbl) : (tbls T).length = T.length := by simp [tbls]
theorem tbls_init (n : Nat) : (List.replicate n (Value.string ⟨[45].toArray⟩)).set 0 (.string ⟨[].toArray⟩) = tbls (M.binit n).2 := by
  unfold M.binit
  rw [← tbls_set]
  unfold tbls
  rw [List.map_replicate]
  rfl
theorem heldC {w w1 : World} {b1 o1 b2 o2 b3 o3 : Nat} {u1 u2 u3 : Value} (h : w.cell? ⟨b1, o1, none⟩ = some u1 ∧ w.cell? ⟨b2, o2, none⟩ = some u2 ∧ w.cell? ⟨b3, o3, none⟩ = some u3) (hb : Below w.heap.size w w1) :
    w1.cell? ⟨b1, o1, none⟩ = some u1 ∧ w1.cell? ⟨b2, o2, none⟩ = some u2 ∧ w1.cell? ⟨b3, o3, none⟩ = some u3 := ⟨cellKeep hb h.1, cellKeep hb h.2.1, cellKeep hb h.2.2⟩
theorem tbl_get {T : M.Tbl} {z : Nat} {v : List UInt8} (h : T.getD z none = some v) : T[z]? = some (some v) := by
  rw [List.getD_eq_getElem?_getD] at h
  cases hc : T[z]? with
  | none => rw [hc] at h; cases h
  | some o => rw [hc] at h; simp at h; rw [h]
/-- The two rows of the search: the words, and the queue behind its first a elements. -/
structure RI (w : World) (B r gq off c n a m : Nat) (T : List Value) (L : List Nat) : Prop where
  br : B ≤ r
  o : Own w B 1 (some ⟨r, 0, none⟩) n T
  q : OwnC w (r + 1) gq off m c (nqs (L.drop a))
  hm : m = L.length - a
  ha : a ≤ L.length
section
variable {w w' : World} {B r gq off c n a m : Nat} {T : List Value} {L : List Nat}
theorem RI.below (h : RI w B r gq off c n a m T L) (hb : Below w.heap.size w w') : RI w' B r gq off c n a m T L := ⟨h.br, h.o.below hb, h.q.below hb, h.hm, h.ha⟩
theorem RI.cell (h : RI w B r gq off c n a m T L) (hn : 0 < n) {j : Nat} {u : Value} (hu : T[j]? = some u) : w.cell? ⟨r, j, none⟩ = some u := (h.o.at0 hn).2.1 j u hu
theorem RI.froz (h : RI w B r gq off c n a m T L) (hn : 0 < n) (j : Nat) : w.frozen? ⟨r, j, none⟩ = false := (h.o.at0 hn).2.2.1 j
theorem RI.head (h : RI w B r gq off c n a m T L) {x : Nat} (hx : L[a]? = some x) : w.cell? ⟨gq, off, none⟩ = some (.int .i64 (x : Int)) := h.q.cell (j := 0) (nqs_head hx)
theorem RI.gqr (h : RI w B r gq off c n a m T L) (hm : 0 < m) : r < gq := by
  obtain ⟨cur, h1, _⟩ := h.q.2.2.2 (by have := h.q.2.1; omega)
  exact h1
theorem RI.set (h : RI w B r gq off c n a m T L) (hn : 0 < n) (hm : 0 < m) (z : Nat) (u : Value) : RI (w.setCell ⟨r, z, none⟩ u) B r gq off c n a m (T.set z u) L :=
  ⟨h.br, (h.o.at0 hn).2.2.2 z u, h.q.away (row := some r) ⟨rfl, rfl, rfl, by simp, fun k _ hk => heap_setCell_other w ⟨r, z, none⟩ k u (fun e => hk (by simp [e]))⟩ (by have := h.gqr hm; simp; omega), h.hm, h.ha⟩
theorem RI.push (h : RI w B r gq off c n a m T L) (hm : 0 < m) (hn : 0 < n) {z o' c' g' : Nat} (hq : OwnC w' (r + 1) g' o' (m + 1) c' (nqs (L.drop a) ++ [.int .i64 (z : Int)])) (hg : w.grownBy w' (some gq)) : RI w' B r g' o' c' n a (m + 1) T (L ++ [z]) :=
  ⟨h.br, h.o.grown hg (fun g e => by
    have := h.gqr hm
    obtain ⟨_, ad, e1, e2⟩ := blk_some e
    injection e1 with e1
    subst e1
    intro e3
    injection e3 with e3
    simp at e2
    omega), by
      have e : nqs ((L ++ [z]).drop a) = nqs (L.drop a) ++ [.int .i64 (z : Int)] := by
        rw [List.drop_append_of_le_length h.ha, nqs_add]
        rfl
      rw [e]
      exact hq, by have := h.hm; have := h.ha; simp; omega, by have := h.ha; simp; omega⟩
theorem RI.pop (h : RI w B r gq off c n a m T L) (hm : 0 < m) (hc : 1 < c) : RI w B r gq (off + 1) (c - 1) n (a + 1) (m - 1) T L := by
  obtain ⟨k, rfl⟩ : ∃ k, m = k + 1 := ⟨m - 1, by omega⟩
  have hm := h.hm
  have ha := h.ha
  refine ⟨h.br, h.o, ?_, by omega, by omega⟩
  have e : nqs (L.drop (a + 1)) = (nqs (L.drop a)).drop 1 := by unfold nqs; rw [← List.map_drop, List.drop_drop]
  rw [e]
  exact h.q.tail hc
theorem RI.pop0 (h : RI w B r gq off c n a m T L) (hm : 0 < m) (hc : ¬ 1 < c) (gq' off' : Nat) : m = 1 ∧ c = 1 ∧ RI w B r gq' off' 0 n (a + 1) 0 T L := by
  have hc1 := h.q.2.1
  obtain rfl : c = 1 := by omega
  obtain rfl : m = 1 := by omega
  have hm := h.hm
  have ha := h.ha
  refine ⟨rfl, rfl, h.br, h.o, ?_, by omega, by omega⟩
  have e : nqs (L.drop (a + 1)) = (nqs (L.drop a)).drop 1 := by unfold nqs; rw [← List.map_drop, List.drop_drop]
  rw [e]
  exact ⟨by have := h.q.1; rw [List.length_drop]; omega, by omega, by simp [maxLen], fun h => by omega⟩
theorem RI.init {xs ys : List Int} (h : RI w B r gq off c n a m ((List.replicate n (Value.string ⟨[45].toArray⟩)).set 0 (.string ⟨[].toArray⟩)) L) : RI w B r gq off c n a m (tbls (M.brun n xs ys 0).2) L := by
  rw [tbls_init] at h
  exact h
theorem RI.first (hgq : gq = w.heap.size) (hr : B ≤ r) (ho : Own w B 1 (some ⟨r, 0, none⟩) n T) (hrw : r < w.heap.size) : RI (w.alloc (.cells #[.int .i64 ((0 : Nat) : Int)] 3)) B r gq 0 1 n 0 1 T [0] := by
  subst hgq
  exact ⟨hr, ho.below ((Below.refl _ _).alloc (Nat.le_refl _) _), OwnC.one w _ hrw, rfl, Nat.zero_le _⟩
end
set_option maxRecDepth 100000 in
set_option maxHeartbeats 4000000 in
theorem shortest_c (n : Nat) (A : Option Addr) (c : Nat) (xs : List Int) (D : Option Addr) (d : Nat) (ys : List Int) (w : World) (hA : Rd w 1 A xs.length (ints xs)) (hD : Rd w 1 D ys.length (ints ys)) (hn1 : 1 ≤ n) (hn : n ≤ 40) (hl : xs.length = n * n) (hP : M.InP n xs) (hy : ∀ j, j < ys.length → 0 ≤ M.tAt ys j ∧ M.tAt ys j < n) (hq1 : 1 ≤ ys.length) (hq : ys.length ≤ 4) :
    Calls Try.prog 72 #[.agg #[.int .i64 n, .slice A xs.length c], .slice D ys.length d] w fun e w' => ∃ r, e = .returned (.slice (some ⟨r, 0, none⟩) n n) ∧ Own w' w.heap.size 1 (some ⟨r, 0, none⟩) n (tbls (M.brun n xs ys n).2) ∧ Below w.heap.size w w' := by
  have HA := Lib.hid hA
  obtain ⟨bD, oD, rfl, hDc⟩ := hD.2 hq1
  have HTI := Lib.hid (fun x y hx hy => M.tI_in hP hl (x := x) (y := y) hx hy)
  have HT := Lib.hid (show ∀ (x y : Int) (W : World), Rd W 1 A xs.length (ints xs) → (0 ≤ x ∧ x < n) → (0 ≤ y ∧ y < n) → Calls Try.prog 129 #[.agg #[.int .i64 n, .slice A xs.length c], .int .i64 x, .int .i64 y] W (fun e w' => e = .returned (.int .i64 ((M.tI n xs x y).toNat : Int)) ∧ Below W.heap.size W w') from fun x y W h hx hy => (times_c n A c xs x y W h hn hl hx hy).mono fun e w' ⟨he, hb⟩ => ⟨by rw [he, Int.toNat_of_nonneg (M.tI_in hP hl hx hy).1], hb⟩)
  have HRS := Lib.hid (fun b (W : World) (h : W.cell? ⟨b, 0, none⟩ = some (.string ⟨[45].toArray⟩)) => Repeat_s b n (.string ⟨[45].toArray⟩) W rfl h hn1 hn)
  have HZ := Lib.hid (show ∀ x j, x < n → j < ys.length → M.bz n xs ys x j < n from fun x j hx hj => by
    have h := M.tI_in hP hl (x := (x : Int)) (y := M.tAt ys j) (by omega) (hy j hj)
    unfold M.bz
    omega)
  have HBI := Lib.hid (brun_inv (n := n) (xs := xs) (ys := ys) hn1 HZ.out hq)
  clear hA hP
  have HXS := Lib.hid (show xs.length ≤ 1600 by have := M.sq_le hn; omega)
  clear hl
  have hHy := Lib.hid hy
  clear hy
  generalize hxl : xs.length = xl at *
  have HYA := Lib.hid (show ∀ j, j < ys.length → ∀ W, Below w.heap.size w W → W.cell? ⟨bD, oD + j, none⟩ = some (.int .i64 (M.tAt ys j)) from fun j h W hb => cellKeep hb (hDc j _ (by rw [ints_at h, M.tAt_eq h])))
  clear hDc hD
  have HST := Lib.hid (fun a x (h : (M.brun n xs ys a).1[a]? = some x) => brun_step h)
  have HRI := Lib.hid (fun a x (h : x ∈ (M.brun n xs ys a).1) => brow_inv (HBI.out a) (fun j hj => HZ.out x j ((HBI.out a).mem x h).1 hj) h hq)
  have HEN := Lib.hid (fun a (h : a ≤ n) hb => brun_end (xs := xs) (ys := ys) h hb)
  generalize hyl : ys.length = q at *
  go_enter Try.func72, Try.ntmps72
  go_wp2_with fail
  obtain ⟨w0, hw0⟩ : ∃ w0 : World, w0 = (w.alloc (.cells #[.int .i64 n, .slice A xl c] 40)).alloc (.cells #[.string ⟨[45].toArray⟩] 9) := ⟨_, rfl⟩
  obtain ⟨g, hg⟩ : ∃ g, g = w.heap.size := ⟨_, rfl⟩
  have C0 := Lib.hid (show w0.cell? ⟨g, 0, none⟩ = some (.int .i64 n) by rw [hw0, hg]; simp [go_sem])
  have C1 := Lib.hid (show w0.cell? ⟨g, 1, none⟩ = some (.slice A xl c) by rw [hw0, hg]; simp [go_sem])
  have C2 := Lib.hid (show w0.cell? ⟨g + 1, 0, none⟩ = some (.string ⟨[45].toArray⟩) by rw [hw0, hg]; simp [go_sem])
  have T0 := Lib.hid (show Below w.heap.size w w0 by rw [hw0]; exact ((Below.refl _ _).alloc (Nat.le_refl _) _).alloc (by simp) _)
  have S0 := Lib.hid (show w0.heap.size = g + 2 by rw [hw0, hg]; simp)
  have hgd := Lib.hid hg
  try rw [← hg]
  rw [← show w0 = (w.alloc (.cells #[.int .i64 n, .slice A xl c] 40)).alloc (.cells #[.string ⟨#[45]⟩] 9) from hw0]
  clear hw0 hg
  refine (HRS.out _ _ C2.out).mono ?_
  rintro e w1 ⟨r, rfl, ho, hb⟩
  obtain ⟨B, hB⟩ : ∃ B, B = w0.heap.size := ⟨_, rfl⟩
  rw [← hB] at ho hb
  have HBs := Lib.hid hB
  have hBg : g + 2 = B := by rw [hB, S0.out]
  clear hB
  obtain ⟨hr, hcs, hfs, hst⟩ := ho.at0 (by omega)
  have c0 := hcs 0 _ (by rw [List.getElem?_replicate, if_pos (by omega)])
  have f0 := hfs 0
  have HST0 := Lib.hid (hst 0 (.string ⟨[].toArray⟩))
  have HB1 := Lib.hid (hb.setCell (p := ⟨r, 0, none⟩) hr (.string ⟨[].toArray⟩))
  clear ho hb hcs hfs hst
  have hrw := HST0.out.lt r (by unfold blk; rw [if_neg (by omega)]; rfl)
  have HI0 := Lib.hid (RI.first (gq := w1.heap.size) (by simp) hr HST0.out hrw.2)
  have HB2 := Lib.hid (HB1.out.alloc (by rw [HBs.out]; exact HB1.out.size) (.cells #[.int .i64 ((0 : Nat) : Int)] 3))
  clear hrw
  go_wp2_with fail
  clear c0 f0
  go_loopg [6] n (fun k z wr => ∃ a m gq off cq : Nat, a + k = n ∧ z = .slice (some ⟨gq, off, none⟩) m cq ∧ RI wr B r gq off cq n a m (tbls (M.brun n xs ys a).2) (M.brun n xs ys a).1 ∧ Below B w0 wr)
  case atStart => exact ⟨0, 1, _, 0, 1, by omega, rfl, HI0.out.init, HB2.out⟩
  case round =>
    obtain ⟨a, m, gq, off, cq, hak, rfl, hri, hb⟩ := hrel
    have HI := Lib.hid hri
    have HB := Lib.hid hb
    clear hri hb HI0 HB2 HST0 HB1
    by_cases hm : m = 0
    case pos =>
      subst hm
      have HE := Lib.hid (HEN.out a (by omega) (by have := HI.out.hm; omega))
      go_wp2_with fail
      go_ret
      have hsz := T0.out.size
      have hb' : Below w0.heap.size w0 wr := by rw [← HBs.out]; exact HB.out
      exact ⟨r, rfl, by rw [HE.out]; exact HI.out.o.mono (by rw [HBs.out]; exact hsz), T0.out.trans (hb'.mono hsz)⟩
    case neg =>
    have hm0 : 0 < m := by omega
    have hLa : a < (M.brun n xs ys a).1.length := by have := HI.out.hm; omega
    obtain ⟨x, hx⟩ : ∃ x, (M.brun n xs ys a).1[a]? = some x := ⟨_, List.getElem?_eq_getElem hLa⟩
    have HXm := List.mem_of_getElem? hx
    have HS := Lib.hid (HST.out a x hx)
    have HR := Lib.hid (HRI.out a x HXm)
    have hxn : x < n := ((HBI.out a).mem x HXm).1
    have HX := Lib.hid (show ∀ j, j ≤ q → (M.brow n xs ys x (M.brun n xs ys a) j).1[a]? = some x from fun j hj => (HR.out j hj).2.2 a x hx)
    have HXs := Lib.hid (show ∀ j, j ≤ q → ((M.brow n xs ys x (M.brun n xs ys a) j).2.getD x none).isSome = true from fun j hj => ((HR.out j hj).1.mem x ((HR.out j hj).2.1 x HXm)).2)
    have HI0 := Lib.hid (show RI wr B r gq off cq n a m (tbls (M.brow n xs ys x (M.brun n xs ys a) 0).2) (M.brow n xs ys x (M.brun n xs ys a) 0).1 from HI.out)
    have han : a < n := by have := (HBI.out a).le; omega
    have HRB := Lib.hid (show ∀ j, j ≤ q → BInv n (M.brow n xs ys x (M.brun n xs ys a) j) from fun j hj => (HR.out j hj).1)
    have HSC := Lib.hid (show ∀ j, M.brow n xs ys x (M.brun n xs ys a) (j + 1) = M.bvis n xs ys x j (M.brow n xs ys x (M.brun n xs ys a) j) from fun j => rfl)
    clear hx HXm hLa HR HI
    generalize M.brow n xs ys x (M.brun n xs ys a) = F at *
    go_wp2_with fail
    go_loopw [6, 24] (fun z y wr => ∃ j m gq off cq : Nat, j ≤ q ∧ y = .int .i64 (j : Int) ∧ z = .slice (some ⟨gq, off, none⟩) m cq ∧ RI wr B r gq off cq n a m (tbls (F j).2) (F j).1 ∧ Below B w0 wr) (fun _ y _ => q - (intOf y).toNat)
    case atStart => exact ⟨0, m, gq, off, cq, by omega, rfl, rfl, HI0.out, HB.out⟩
    case round =>
      obtain ⟨j, m, gq, off, cq, hj, rfl, rfl, hri, hb⟩ := hrel
      have HI := Lib.hid hri
      have HB := Lib.hid hb
      clear hri hb HI0
      by_cases hjq : j < q
      case neg =>
        obtain rfl : j = q := by omega
        have hm1 : 0 < m := by
          have h := (List.getElem?_eq_some_iff.1 (HX.out j (Nat.le_refl _))).1
          have := HI.out.hm
          omega
        have hmi : (1 : Int) ≤ (m : Int) := by omega
        by_cases hc : 1 < cq
        · have HP := Lib.hid (HI.out.pop hm1 hc)
          have hce : ¬ cq = 1 := by omega
          go_wp2_with fail
          go_roundg (gk - 1)
          case measure => omega
          case rel => exact ⟨a + 1, m - 1, gq, off + 1, cq - 1, by omega, rfl, by rw [HS.out]; exact HP.out, HB.out⟩
        · obtain ⟨rfl, rfl, hp⟩ := HI.out.pop0 hm1 hc gq off
          have HP := Lib.hid hp
          clear hp
          go_wp2_with fail
          go_roundg (gk - 1)
          case measure => omega
          case rel => exact ⟨a + 1, 0, gq, off, 0, by omega, rfl, by rw [HS.out]; exact HP.out, HB.out⟩
      case pos =>
      have hBk : Below w0.heap.size w0 wr := by rw [← HBs.out]; exact HB.out
      have c0 := cellKeep hBk C0.out
      have c1 := cellKeep hBk C1.out
      have RA := Lib.hid (HA.out.below (T0.out.trans (hBk.mono T0.out.size)))
      have d0 := HYA.out j hjq wr (T0.out.trans (hBk.mono T0.out.size))
      clear hBk
      have ch := HI.out.head (HX.out j hj)
      have hyj := hHy.out j hjq
      have HTj := Lib.hid (show ∀ W, Rd W 1 A xl (ints xs) → Calls Try.prog 129 #[.agg #[.int .i64 n, .slice A xl c], .int .i64 (x : Int), .int .i64 (M.tAt ys j)] W (fun e w' => e = .returned (.int .i64 (M.bz n xs ys x j : Int)) ∧ Below W.heap.size W w') from fun W h => HT.out x (M.tAt ys j) W h (by omega) hyj)
      have hz := HZ.out x j hxn hjq
      have HSj := Lib.hid (show F (j + 1) = if ((F j).2.getD (M.bz n xs ys x j) none).isSome = true then F j else ((F j).1 ++ [M.bz n xs ys x j], (F j).2.set (M.bz n xs ys x j) (some (M.bword (F j).2 x j))) from HSC.out j)
      have HL := Lib.hid (HRB.out j hj)
      generalize M.bz n xs ys x j = z at *
      generalize M.tAt ys j = y at *
      clear hyj
      have hzi : (z : Int) < (n : Int) := by omega
      have co := HI.out.cell (by omega) (tbls_at (T := (F j).2) (z := z) (by rw [HL.out.len]; exact hz))
      have CO := Lib.hid co
      clear co
      have hm1 : 0 < m := by
        have h := (List.getElem?_eq_some_iff.1 (HX.out j hj)).1
        have := HI.out.hm
        omega
      have hmi : (0 : Int) < (m : Int) := by omega
      go_wp2_with fail
      go_region_held3 (fun w' => w'.cell? ⟨g, 0, none⟩ = some (.int .i64 n) ∧ w'.cell? ⟨g, 1, none⟩ = some (.slice A xl c) ∧ w'.cell? ⟨gq, off, none⟩ = some (.int .i64 x)) (first | exact ⟨c0, c1, ch⟩ | assumption | exact heldC (by assumption) hb4) (first | (go_simp; go_at_call 129; refine (HTj.out _ (RA.out.below (Below.refl _ _).drew)).mono ?_; rintro e w4 ⟨rfl, hb4⟩))
      have hb5 := below_drew1 hb4
      have HI4 := Lib.hid (HI.out.below hb5)
      have HB4 := Lib.hid (HB.out.trans (hb5.mono (by rw [HBs.out]; exact HB.out.size)))
      have CO4 := Lib.hid (cellKeep hb5 CO.out)
      have ch4 := cellKeep hb5 ch
      clear hb4 hb5 c0 c1 d0 ch CO HI HB RA
      obtain ⟨oz, hoz⟩ : ∃ oz, oz = (F j).2.getD z none := ⟨_, rfl⟩
      have HOZ := Lib.hid hoz
      rw [← hoz] at CO4 HSj
      clear hoz
      cases oz
      case some v =>
        have hv : (v == [45]) = false := by
          have h := (HL.out.word z v (tbl_get HOZ.out.symm)).1
          simpa using h
        have HSk := Lib.hid (show F (j + 1) = F j by rw [HSj.out]; rfl)
        have co : w4.cell? ⟨r, z, none⟩ = some (.string ⟨v.toArray⟩) := CO4.out
        go_wp2_with fail
        go_roundw
        case rel => exact ⟨j + 1, m, gq, off, cq, by omega, by go_num, rfl, by rw [HSk.out]; exact HI4.out, HB4.out⟩
        case measure => simp [intOf] <;> omega
      case none =>
        have co : w4.cell? ⟨r, z, none⟩ = some (.string ⟨[45].toArray⟩) := CO4.out
        obtain ⟨u, hu⟩ := Option.isSome_iff_exists.1 (HXs.out j hj)
        have HSk := Lib.hid (show F (j + 1) = ((F j).1 ++ [z], (F j).2.set z (some (u ++ [M.letter j]))) by rw [HSj.out, if_neg (by simp)]; unfold M.bword; rw [hu]; rfl)
        have hcx := HI4.out.cell (by omega) (tbls_at (T := (F j).2) (z := x) (by rw [HL.out.len]; exact hxn))
        rw [hu] at hcx
        have cx : w4.cell? ⟨r, x, none⟩ = some (.string ⟨u.toArray⟩) := hcx
        have fz := HI4.out.froz (by omega) z
        have hul : u.length ≤ 40 := by
          have h := (HL.out.word x u (tbl_get hu)).2
          have := HL.out.le
          omega
        have hrg : r ≠ gq := by have := HI4.out.gqr hm1; omega
        have hxz : z ≠ x := fun e => by
          have h1 := HOZ.out
          rw [e, hu] at h1
          cases h1
        clear hcx hu
        have hxi : (x : Int) < (n : Int) := by omega
        have hca : ¬ 9223372036854775807 < u.length + 1 := by omega
        have HLO := Lib.hid (fun W => letterOf_c j W (by omega))
        go_wp2_with fail
        go_region_held3 (fun w' => w'.cell? ⟨gq, off, none⟩ = some (.int .i64 x) ∧ w'.cell? ⟨r, x, none⟩ = some (.string ⟨u.toArray⟩)) (first | exact ⟨ch4, cx⟩ | assumption | exact heldB (by assumption) hb5 | exact ⟨(cell_set_ne _ (Or.inl hrg)).trans (And.left (by assumption)), (cell_set_ne _ (Or.inr hxz)).trans (And.right (by assumption))⟩) (first | (go_simp; go_at_call 130; refine (HLO.out _).mono ?_; rintro e w5 ⟨rfl, hb5⟩; have Bz := below_then (a := w4) (Below.refl _ _).drew hb5; have hc5 := cellKeep Bz co; have hf5 := (HI4.out.below Bz).froz (by omega) z))
        have HI5 := Lib.hid ((HI4.out.below Bz).set (by omega) hm1 z (.string ⟨(u ++ [M.letter j]).toArray⟩))
        have HB5 := Lib.hid ((HB4.out.trans (Bz.mono (by rw [HBs.out]; exact HB4.out.size))).setCell (p := ⟨r, z, none⟩) hr (.string ⟨(u ++ [M.letter j]).toArray⟩))
        clear hc5 hf5 co cx fz ch4 Bz hb5
        rw [tbls_set] at HI5
        generalize w5.setCell ⟨r, z, none⟩ (.string ⟨(u ++ [M.letter j]).toArray⟩) = w6 at *
        have HI6 := Lib.hid (HI5.out.below ((Below.refl _ _).alloc (Nat.le_refl _) (.cells #[.int .i64 (z : Int)] 3)))
        have HB6 := Lib.hid (HB5.out.alloc (by rw [HBs.out]; exact HB5.out.size) (.cells #[.int .i64 (z : Int)] 3))
        have HC6 := Lib.hid (show (w6.alloc (.cells #[.int .i64 (z : Int)] 3)).cell? ⟨w6.heap.size, 0, none⟩ = some (.int .i64 (z : Int)) by simp [go_sem])
        have hrs := (HI6.out.o.lt r (by unfold blk; rw [if_neg (by omega)]; rfl)).2
        have HRS6 := Lib.hid (show r + 1 ≤ (w6.alloc (.cells #[.int .i64 (z : Int)] 3)).heap.size from hrs)
        have hm6 : m < 1048576 := by
          have := HI6.out.hm
          have := HL.out.le
          omega
        clear HI5 HB5 hrs
        go_wp2_with (at_builtin; refine push_off rfl (.tmp 52) (.tmp 54) rfl rfl HI6.out.q rfl HC6.out rfl HRS6.out hm6 ?_; intro g' o' c' w7 hq7 hg7)
        have HI7 := Lib.hid (HI6.out.push hm1 (by omega) hq7 hg7)
        have HB7 := Lib.hid (HB6.out.grown hg7 (by rw [HBs.out]; exact HB6.out.size) (by have := HI6.out.gqr hm1; simp; omega))
        go_roundw
        case rel => exact ⟨j + 1, m + 1, g', o', c', by omega, by go_num, rfl, by rw [HSk.out]; exact HI7.out, HB7.out⟩
        case measure => simp [intOf] <;> omega
end Go.Proofs.Ytlohpphmamapeaa
