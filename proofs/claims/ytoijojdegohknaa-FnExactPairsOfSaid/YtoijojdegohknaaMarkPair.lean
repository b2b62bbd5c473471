/-
  Comparing, marking and reading back slices of pairs.
  Conditions: at most 13000000 elements.
-/
import Derived.Test.YtoijojdegohknaaMarkRec
import Derived.Test.YtoijojdegohknaaRecPair
import Derived.Test.YtoijojdegohknaaFirst
import Derived.Deep.RegionHeld3
namespace Go.Proofs.Ytoijojdegohknaa
open Go.RowKit
set_option linter.unusedVariables false
set_option linter.unusedSimpArgs false

set_option maxRecDepth 100000 in
set_option maxHeartbeats 1000000 in
theorem eqPair_t (x : List UInt8) (r1 p1 r2 p2 : Int) (w : World) : Calls Try.prog 96 #[.agg #[.string ⟨x.toArray⟩, .int .i64 r1, .int .i64 p1, .int .i64 r2, .int .i64 p2], .agg #[.string ⟨x.toArray⟩, .int .i64 r1, .int .i64 p1, .int .i64 r2, .int .i64 p2]] w fun e w' => e = .returned (.bool true) ∧ Below w.heap.size w w' := by
  have H1 := Lib.hid (fun W => eqStep_t r1 p1 W)
  have H2 := Lib.hid (fun W => eqStep_t r2 p2 W)
  have hxx : (x == x) = true := by simp
  go_enter Try.func96, Try.ntmps96
  go_wp2_with fail
  refine (H1.out _).mono ?_
  rintro e w1 ⟨rfl, hb⟩
  have a3 : w1.cell? ⟨w.heap.size, 3, none⟩ = some (.int .i64 r2) := cellKeep hb (by simp [go_sem])
  have a4 : w1.cell? ⟨w.heap.size, 4, none⟩ = some (.int .i64 p2) := cellKeep hb (by simp [go_sem])
  have b3 : w1.cell? ⟨w.heap.size + 1, 3, none⟩ = some (.int .i64 r2) := cellKeep hb (by simp [go_sem])
  have b4 : w1.cell? ⟨w.heap.size + 1, 4, none⟩ = some (.int .i64 p2) := cellKeep hb (by simp [go_sem])
  have HB1 := Lib.hid (show Below w.heap.size w w1 from below_then (a := w) (((Below.refl _ _).alloc (Nat.le_refl _) _).alloc (by simp) _) hb)
  clear hb
  go_wp2_with fail
  refine (H2.out _).mono ?_
  rintro e w2 ⟨rfl, hb2⟩
  go_wp2_with fail
  go_ret
  exact ⟨rfl, HB1.out.trans (hb2.mono HB1.out.size)⟩
set_option maxRecDepth 100000 in
set_option maxHeartbeats 2000000 in
theorem eqPairS_t (A B0 : Option Addr) (c d : Nat) (xs : List M.Pair) (w : World) (hA : Rd w 5 A xs.length (pairs_ xs)) (hB : Rd w 5 B0 xs.length (pairs_ xs)) (hx : xs.length ≤ 1099511627776) :
    Calls Try.prog 59 #[.slice A xs.length c, .slice B0 xs.length d] w fun e w' => e = .returned (.bool true) ∧ Below w.heap.size w w' := by
  have HA := Lib.hid hA
  have HB := Lib.hid hB
  obtain ⟨n, hn⟩ : ∃ n, n = xs.length := ⟨_, rfl⟩
  rw [← hn] at HA HB hx ⊢
  clear hA hB hn
  go_enter Try.func59, Try.ntmps59
  go_wp2
  go_loopw [5] (fun i wr => ∃ k : Nat, k ≤ n ∧ i = .int .i64 k ∧ Below w.heap.size w wr) (fun i _ => n - (intOf i).toNat)
  case atStart => exact ⟨0, by omega, rfl, Below.refl _ _⟩
  case round =>
    obtain ⟨k, hk, rfl, hb⟩ := hrel
    have HW := Lib.hid hb
    clear hb
    by_cases hlt : k < n
    case neg =>
      obtain rfl : k = n := by omega
      go_wp2
      go_ret
      exact ⟨rfl, HW.out⟩
    case pos =>
      obtain ⟨b1, o1, rfl, hz1, c0, c1, c2, c3, c4⟩ := (HA.out.below HW.out).pairAt (k := k) hlt
      obtain ⟨b2, o2, rfl, hz2, d0, d1, d2, d3, d4⟩ := (HB.out.below HW.out).pairAt (k := k) hlt
      generalize xs[k] = p at *
      obtain ⟨x, r1, p1, r2, p2⟩ := p
      simp only at c0 c1 c2 c3 c4 d0 d1 d2 d3 d4
      have HE := Lib.hid (fun W => eqPair_t x r1 p1 r2 p2 W)
      go_wp2_with fail
      go_region_with (go_at_call 96; refine (HE.out _).mono ?_; rintro e w1 ⟨rfl, hb1⟩)
      all_goals
        go_wp2
        go_roundw
        case rel => exact ⟨k + 1, by omega, by go_num, (HW.out.drew).trans (hb1.mono HW.out.size)⟩
        case measure => simp [intOf] <;> omega
theorem set_five {xs cs : List Value} {a b c d f u v x y z : Value} {k : Nat} (h : xs.length = k) : (((((xs ++ a :: b :: c :: d :: f :: cs).set k u).set (k + 1) v).set (k + 2) x).set (k + 3) y).set (k + 4) z = xs ++ u :: v :: x :: y :: z :: cs := by
  subst h
  simp [List.set_append_right, List.set_cons_succ]
theorem drop_five {cs : List Value} {k : Nat} (h : k + 4 < cs.length) : ∃ a b c d f, cs.drop k = a :: b :: c :: d :: f :: cs.drop (k + 5) := by
  refine ⟨cs[k], cs[k + 1], cs[k + 2], cs[k + 3], cs[k + 4], ?_⟩
  rw [List.drop_eq_getElem_cons (by omega), List.drop_eq_getElem_cons (i := k + 1) (by omega), List.drop_eq_getElem_cons (i := k + 2) (by omega), List.drop_eq_getElem_cons (i := k + 3) (by omega), List.drop_eq_getElem_cons (i := k + 4) h]
def markedPair (q : Int) (n : Nat) : List M.Pair := (List.range n).map fun k => ⟨markT (q + ((k : Nat) : Int) * 5), q + ((k : Nat) : Int) * 5 + 1, q + ((k : Nat) : Int) * 5 + 1 + 1, q + ((k : Nat) : Int) * 5 + 1 + 1 + 1, q + ((k : Nat) : Int) * 5 + 1 + 1 + 1 + 1⟩
theorem markedPair_len (q : Int) (n : Nat) : (markedPair q n).length = n := by simp [markedPair]
theorem markedPair_succ (q : Int) (k : Nat) : markedPair q (k + 1) = markedPair q k ++ [⟨markT (q + (k : Int) * 5), q + (k : Int) * 5 + 1, q + (k : Int) * 5 + 1 + 1, q + (k : Int) * 5 + 1 + 1 + 1, q + (k : Int) * 5 + 1 + 1 + 1 + 1⟩] := by simp [markedPair, List.range_succ]
def markPairTo (cs : List Value) (q : Int) (k : Nat) : List Value := pairs_ (markedPair q k) ++ cs.drop (k * 5)
theorem markPairTo_set {cs : List Value} {q : Int} {k n : Nat} (h : k < n) (hl : cs.length = n * 5) : (((((markPairTo cs q k).set (k * 5) (.string ⟨(markT (q + (k : Int) * 5)).toArray⟩)).set (k * 5 + 1) (.int .i64 (q + (k : Int) * 5 + 1))).set (k * 5 + 2) (.int .i64 (q + (k : Int) * 5 + 1 + 1))).set (k * 5 + 3) (.int .i64 (q + (k : Int) * 5 + 1 + 1 + 1))).set (k * 5 + 4) (.int .i64 (q + (k : Int) * 5 + 1 + 1 + 1 + 1)) = markPairTo cs q (k + 1) := by
  unfold markPairTo
  obtain ⟨a, b, c, d, f, e⟩ := drop_five (cs := cs) (k := k * 5) (by omega)
  rw [e, set_five (by rw [pairs_len, markedPair_len]), markedPair_succ]
  simp [pairs_, pairCells, Nat.add_mul]
set_option maxRecDepth 100000 in
set_option maxHeartbeats 4000000 in
theorem markPairS_c (A : Option Addr) (n c base : Nat) (cs : List Value) (q : Int) (w : World) (hA : Own w base 5 A n cs) (hn : n ≤ 13000000) (hq0 : 1 ≤ q) (hq : q ≤ 1048578) :
    Calls Try.prog 60 #[.slice A n c, .int .i64 q] w fun e w' => e = .returned (.int .i64 (q + (n : Int) * 5)) ∧ Own w' base 5 A n (pairs_ (markedPair q n)) ∧ w.grownBy w' (blk A n) := by
  have hlen : cs.length = n * 5 := by simpa using hA.1
  have HL := Lib.hid hlen
  have HA := Lib.hid hA
  clear hlen hA
  go_enter Try.func60, Try.ntmps60
  go_wp2
  go_loopw [1, 5] (fun q' i wr => ∃ k : Nat, k ≤ n ∧ i = .int .i64 k ∧ q' = .int .i64 (q + (k : Int) * 5) ∧ Own wr base 5 A n (markPairTo cs q k) ∧ w.grownBy wr (blk A n)) (fun _ i _ => n - (intOf i).toNat)
  case atStart => exact ⟨0, by omega, rfl, by simp, by simpa [markPairTo, markedPair, pairs_] using HA.out, World.grownBy.refl w _⟩
  case round =>
    obtain ⟨k, hk, rfl, rfl, hown, hg⟩ := hrel
    by_cases hlt : k < n
    · have HO := Lib.hid hown
      have HG := Lib.hid hg
      have HSET := Lib.hid (markPairTo_set (q := q) hlt HL.out)
      obtain ⟨b, o, rfl, _⟩ := HO.out.cells (by omega)
      have HROW := Lib.hid (show blk (some ⟨b, o, none⟩) n = some b by unfold blk; rw [if_neg (by omega)]; rfl)
      have hlm := HO.out.1
      generalize markPairTo cs q k = pr at *
      clear hown hg
      go_wp2_with fail
      refine (markText_c _ _ (by omega) (by omega)).mono ?_
      rintro e w1 ⟨rfl, hb1⟩
      have HO1 := Lib.hid (HO.out.below hb1)
      have HB1 := Lib.hid hb1
      clear hb1
      obtain ⟨b', o', e1, _, _, hz, hf, hst⟩ := (HO1.out).cells (by omega)
      injection e1 with e1
      injection e1 with e1 e2
      subst e1 e2
      obtain ⟨u0, hu0⟩ : ∃ u, (w1).cell? ⟨b, o + k * 5, none⟩ = some u := ⟨_, hz (k * 5) _ (List.getElem?_eq_getElem (by first | omega | (simp; omega)))⟩
      have hf0 : (w1).frozen? ⟨b, o + k * 5, none⟩ = false := hf (k * 5)
      have H0 := Lib.hid (hst (k * 5) (.string ⟨(markT (q + (k : Int) * 5)).toArray⟩))
      clear hz hf hst
      obtain ⟨b', o', e1, _, _, hz, hf, hst⟩ := (H0.out.1).cells (by omega)
      injection e1 with e1
      injection e1 with e1 e2
      subst e1 e2
      obtain ⟨u1, hu1⟩ : ∃ u, ((w1).setCell ⟨b, o + k * 5, none⟩ (.string ⟨(markT (q + (k : Int) * 5)).toArray⟩)).cell? ⟨b, o + k * 5 + 1, none⟩ = some u := ⟨_, hz (k * 5 + 1) _ (List.getElem?_eq_getElem (by first | omega | (simp; omega)))⟩
      have hf1 : ((w1).setCell ⟨b, o + k * 5, none⟩ (.string ⟨(markT (q + (k : Int) * 5)).toArray⟩)).frozen? ⟨b, o + k * 5 + 1, none⟩ = false := hf (k * 5 + 1)
      have H1 := Lib.hid (hst (k * 5 + 1) (.int .i64 (q + (k : Int) * 5 + 1)))
      clear hz hf hst
      obtain ⟨b', o', e1, _, _, hz, hf, hst⟩ := (H1.out.1).cells (by omega)
      injection e1 with e1
      injection e1 with e1 e2
      subst e1 e2
      obtain ⟨u2, hu2⟩ : ∃ u, (((w1).setCell ⟨b, o + k * 5, none⟩ (.string ⟨(markT (q + (k : Int) * 5)).toArray⟩)).setCell ⟨b, o + k * 5 + 1, none⟩ (.int .i64 (q + (k : Int) * 5 + 1))).cell? ⟨b, o + k * 5 + 2, none⟩ = some u := ⟨_, hz (k * 5 + 2) _ (List.getElem?_eq_getElem (by first | omega | (simp; omega)))⟩
      have hf2 : (((w1).setCell ⟨b, o + k * 5, none⟩ (.string ⟨(markT (q + (k : Int) * 5)).toArray⟩)).setCell ⟨b, o + k * 5 + 1, none⟩ (.int .i64 (q + (k : Int) * 5 + 1))).frozen? ⟨b, o + k * 5 + 2, none⟩ = false := hf (k * 5 + 2)
      have H2 := Lib.hid (hst (k * 5 + 2) (.int .i64 (q + (k : Int) * 5 + 1 + 1)))
      clear hz hf hst
      obtain ⟨b', o', e1, _, _, hz, hf, hst⟩ := (H2.out.1).cells (by omega)
      injection e1 with e1
      injection e1 with e1 e2
      subst e1 e2
      obtain ⟨u3, hu3⟩ : ∃ u, ((((w1).setCell ⟨b, o + k * 5, none⟩ (.string ⟨(markT (q + (k : Int) * 5)).toArray⟩)).setCell ⟨b, o + k * 5 + 1, none⟩ (.int .i64 (q + (k : Int) * 5 + 1))).setCell ⟨b, o + k * 5 + 2, none⟩ (.int .i64 (q + (k : Int) * 5 + 1 + 1))).cell? ⟨b, o + k * 5 + 3, none⟩ = some u := ⟨_, hz (k * 5 + 3) _ (List.getElem?_eq_getElem (by first | omega | (simp; omega)))⟩
      have hf3 : ((((w1).setCell ⟨b, o + k * 5, none⟩ (.string ⟨(markT (q + (k : Int) * 5)).toArray⟩)).setCell ⟨b, o + k * 5 + 1, none⟩ (.int .i64 (q + (k : Int) * 5 + 1))).setCell ⟨b, o + k * 5 + 2, none⟩ (.int .i64 (q + (k : Int) * 5 + 1 + 1))).frozen? ⟨b, o + k * 5 + 3, none⟩ = false := hf (k * 5 + 3)
      have H3 := Lib.hid (hst (k * 5 + 3) (.int .i64 (q + (k : Int) * 5 + 1 + 1 + 1)))
      clear hz hf hst
      obtain ⟨b', o', e1, _, _, hz, hf, hst⟩ := (H3.out.1).cells (by omega)
      injection e1 with e1
      injection e1 with e1 e2
      subst e1 e2
      obtain ⟨u4, hu4⟩ : ∃ u, (((((w1).setCell ⟨b, o + k * 5, none⟩ (.string ⟨(markT (q + (k : Int) * 5)).toArray⟩)).setCell ⟨b, o + k * 5 + 1, none⟩ (.int .i64 (q + (k : Int) * 5 + 1))).setCell ⟨b, o + k * 5 + 2, none⟩ (.int .i64 (q + (k : Int) * 5 + 1 + 1))).setCell ⟨b, o + k * 5 + 3, none⟩ (.int .i64 (q + (k : Int) * 5 + 1 + 1 + 1))).cell? ⟨b, o + k * 5 + 4, none⟩ = some u := ⟨_, hz (k * 5 + 4) _ (List.getElem?_eq_getElem (by first | omega | (simp; omega)))⟩
      have hf4 : (((((w1).setCell ⟨b, o + k * 5, none⟩ (.string ⟨(markT (q + (k : Int) * 5)).toArray⟩)).setCell ⟨b, o + k * 5 + 1, none⟩ (.int .i64 (q + (k : Int) * 5 + 1))).setCell ⟨b, o + k * 5 + 2, none⟩ (.int .i64 (q + (k : Int) * 5 + 1 + 1))).setCell ⟨b, o + k * 5 + 3, none⟩ (.int .i64 (q + (k : Int) * 5 + 1 + 1 + 1))).frozen? ⟨b, o + k * 5 + 4, none⟩ = false := hf (k * 5 + 4)
      have H4 := Lib.hid (hst (k * 5 + 4) (.int .i64 (q + (k : Int) * 5 + 1 + 1 + 1 + 1)))
      clear hz hf hst
      go_wp2_with fail
      go_roundw
      case rel => exact ⟨k + 1, by omega, by go_num, by go_num, by rw [← HSET.out]; exact H4.out.1, (HG.out.trans (grown_of_below HB1.out _)).trans (by rw [HROW.out]; exact (((H0.out.2.trans H1.out.2).trans H2.out.2).trans H3.out.2).trans H4.out.2)⟩
      case measure => simp [intOf] <;> omega
    · obtain rfl : k = n := by omega
      have HO := Lib.hid hown
      have HG := Lib.hid hg
      clear hown hg
      go_wp2
      go_ret
      exact ⟨rfl, by have h := HO.out; unfold markPairTo at h; rw [List.drop_of_length_le (by have := HL.out; omega), List.append_nil] at h; exact h, HG.out⟩
theorem markedPair_at (q : Int) (n k : Nat) (h : k < (markedPair q n).length) : (markedPair q n)[k] = ⟨markT (q + (k : Int) * 5), q + (k : Int) * 5 + 1, q + (k : Int) * 5 + 1 + 1, q + (k : Int) * 5 + 1 + 1 + 1, q + (k : Int) * 5 + 1 + 1 + 1 + 1⟩ := by simp [markedPair]
set_option maxRecDepth 100000 in
set_option maxHeartbeats 2000000 in
theorem heldPairS_c (A : Option Addr) (n c : Nat) (q : Int) (w : World) (hA : Rd w 5 A n (pairs_ (markedPair q n))) (hn : n ≤ 13000000) (hq0 : 1 ≤ q) (hq : q ≤ 1048578) :
    Calls Try.prog 61 #[.slice A n c, .int .i64 q] w fun e w' => e = .returned (.int .i64 (q + (n : Int) * 5)) ∧ Below w.heap.size w w' := by
  have HA := Lib.hid hA
  clear hA
  go_enter Try.func61, Try.ntmps61
  go_wp2
  go_loopw [1, 5] (fun q' i wr => ∃ k : Nat, k ≤ n ∧ i = .int .i64 k ∧ q' = .int .i64 (q + (k : Int) * 5) ∧ Below w.heap.size w wr) (fun _ i _ => n - (intOf i).toNat)
  case atStart => exact ⟨0, by omega, rfl, by simp, Below.refl _ _⟩
  case round =>
    obtain ⟨k, hk, rfl, rfl, hb⟩ := hrel
    have HB := Lib.hid hb
    clear hb
    by_cases hlt : k < n
    · obtain ⟨b, o, rfl, hz, c0, c1, c2, c3, c4⟩ := (HA.out.below HB.out).pairAt hlt
      rw [markedPair_at] at c0 c1 c2 c3 c4
      simp only at c0 c1 c2 c3 c4
      have HC0 := Lib.hid c0
      have HC1 := Lib.hid c1
      have HC2 := Lib.hid c2
      have HC3 := Lib.hid c3
      have HC4 := Lib.hid c4
      have HM1 := Lib.hid (fun W => markText_c (q + (k : Int) * 5) W (by omega) (by omega))
      go_wp2_with fail
      go_region_with (go_at_call 72; refine (HM1.out _).mono ?_; rintro e w1 ⟨rfl, hb1⟩; have hd0 := cellKeep hb1 HC0.out)
      all_goals
        have HB1 := Lib.hid ((HB.out.drew).trans (hb1.mono HB.out.size))
        have he1 := cellKeep hb1 HC1.out
        have he2 := cellKeep hb1 HC2.out
        have he3 := cellKeep hb1 HC3.out
        have he4 := cellKeep hb1 HC4.out
        clear hb1
        go_wp2
        go_roundw
        case rel => exact ⟨k + 1, by omega, by go_num, by go_num, HB1.out⟩
        case measure => simp [intOf] <;> omega
    · obtain rfl : k = n := by omega
      go_wp2
      go_ret
      exact ⟨rfl, HB.out⟩

end Go.Proofs.Ytoijojdegohknaa
