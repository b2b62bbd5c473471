/-
  The contract of collected: clone, sort, compact.
  Conditions: between 1 and 100000 numbers.
-/
import Derived.Test.YtlohpphmamapeaaIdealM
import Derived.Test.YtlohpphmamapeaaOwn
import Derived.Test.YtlohpphmamapeaaShelf
namespace Go.Proofs.Ytlohpphmamapeaa
open Go.RowKit
open Go.Sort (putRow grow Holds putCells heap_grow_old heap_ahead mapBlock onCells grow_empty size_grow size_putRow)
set_option linter.unusedVariables false
set_option linter.unusedSimpArgs false

theorem Own.takeI {w : World} {base n m : Nat} {A : Option Addr} {xs : List Value} (h : Own w base 1 A n xs) (hm : m ≤ n) : Own w base 1 A m (xs.take m) := by
  refine ⟨by rw [List.length_take, h.1]; omega, fun hp => ?_⟩
  obtain ⟨g, o, cur, E, hA, hb, hg, hl, ht⟩ := h.2 (by omega)
  exact ⟨g, o, cur, E, hA, hb, hg, by omega, by rw [← ht, List.take_take, Nat.mul_one, Nat.mul_one, Nat.min_eq_left hm]⟩
theorem own_put {w : World} {base g n : Nat} {ys : List Value} {zs : List Int} (h : Own w base 1 (some ⟨g, 0, none⟩) n ys) (hz : zs.length = n) (hn : 0 < n) (m : Nat) (os : Array Obj) :
    Own (grow (putRow (Value.int .i64) (Go.Sort.ahead w m) g 0 zs.toArray) os) base 1 (some ⟨g, 0, none⟩) n (ints zs) := by
  refine ⟨by simp [ints, hz], fun _ => ?_⟩
  obtain ⟨g', o, cur, E, hA, hb, hg, hl, ht⟩ := h.2 hn
  injection hA with hA
  injection hA with e1 e2
  subst e1
  subst e2
  have hlt : g < w.heap.size := (Array.getElem?_eq_some_iff.1 hg).1
  refine ⟨g, 0, putCells (Value.int .i64) 0 zs.toArray cur, E, rfl, hb, ?_, by unfold putCells; simpa using hl, ?_⟩
  · rw [heap_grow_old _ _ (by simpa using hlt)]
    unfold putRow mapBlock
    simp only [heap_ahead]
    rw [Array.getElem?_modify, if_pos rfl, hg]
    rfl
  · apply List.ext_getElem?
    intro j
    rw [List.getElem?_take]
    by_cases hj : j < n * 1
    · rw [if_pos hj, List.getElem?_drop, Array.getElem?_toList]
      unfold putCells
      have hjc : 0 + j < cur.size := by omega
      have hjz : j < zs.length := by omega
      rw [Array.getElem?_mapIdx, Array.getElem?_eq_getElem hjc]
      simp only [Option.map_some, Nat.zero_add, Nat.sub_zero]
      rw [if_pos ⟨by omega, by simpa using hjz⟩]
      simp [ints, hjz]
    · rw [if_neg hj]
      exact (List.getElem?_eq_none (l := ints zs) (by rw [ints_len]; omega)).symm
theorem below_put {B : Nat} {w0 w : World} {g m : Nat} {d : Array Int} {os : Array Obj} (h : Below B w0 w) (hg : B ≤ g) (hB : B ≤ w.heap.size) : Below B w0 (grow (putRow (Value.int .i64) (Go.Sort.ahead w m) g 0 d) os) := by
  refine ⟨h.os, h.tape, h.output, by have := h.size; simp; omega, fun i hi => ?_⟩
  rw [heap_grow_old _ _ (by simp; omega)]
  unfold putRow mapBlock
  simp only [heap_ahead]
  rw [Array.getElem?_modify, if_neg (by omega)]
  exact h.block i hi
theorem own_holds {w : World} {base g n : Nat} {zs : List Int} (h : Own w base 1 (some ⟨g, 0, none⟩) n (ints zs)) (hz : zs.length = n) (hn : 0 < n) : Holds (Value.int .i64) w g 0 zs.toArray := by
  obtain ⟨g', o, hA, _, _, hc, hf, _⟩ := h.cells hn
  injection hA with hA
  injection hA with e1 e2
  subst e1
  subst e2
  intro j hj
  have hj' : j < zs.length := by simpa using hj
  refine ⟨?_, hf j⟩
  rw [hc j (.int .i64 zs[j]) (by simp [ints, hj'])]
  simp [hj']

set_option maxRecDepth 100000 in
set_option maxHeartbeats 1000000 in
theorem collected_c (A : Option Addr) (c : Nat) (l : List Int) (w : World) (hA : Rd w 1 A l.length (ints l)) (hn : 0 < l.length) (hl : l.length ≤ 100000) :
    Calls Try.prog 138 #[.slice A l.length c] w (RetRd (fun A c => .slice A (Lib.compact (M.sortI l)).length c) 1 (Lib.compact (M.sortI l)).length (ints (Lib.compact (M.sortI l))) w) := by
  obtain ⟨b, o, rfl, hcs⟩ := hA.2 hn
  have HC := Lib.hid (Try.slices_Clone_int b o l.length c l w (Nat.le_refl _) (by omega) (fun j hj => by
    rw [hcs j (.int .i64 l[j]) (by simp [ints, hj])]
    simp [hj]))
  have hsl := sortI_len l
  obtain ⟨q, hq⟩ : ∃ q, q = Lib.compact (M.sortI l) := ⟨_, rfl⟩
  have hql : q.length ≤ l.length := by
    rw [hq]
    unfold Lib.compact Lib.compactUpTo
    rw [List.length_map]
    refine Nat.le_trans (List.length_filter_le _ _) ?_
    simp [hsl]
  rw [← hq]
  have HQ := Lib.hid hq
  have HSL := Lib.hid hsl
  clear hq hsl hA hcs
  obtain ⟨n, hnn⟩ : ∃ n, n = l.length := ⟨_, rfl⟩
  have HN := Lib.hid hnn
  rw [← hnn] at HC hn hl hql ⊢
  clear hnn
  go_enter Try.func138, Try.ntmps138
  go_wp2_with fail
  refine HC.out.mono ?_
  rintro e w1 ⟨v, rfl, hown, _, hb⟩
  have hT : (l.take n).map (Value.int .i64) = ints l := by rw [HN.out, List.take_length]; rfl
  rw [hT] at hown
  obtain ⟨g, cap, rfl, hbg, hcap, hcm⟩ : ∃ g cap, v = .slice (some ⟨g, 0, none⟩) n cap ∧ w.heap.size ≤ g ∧ n ≤ cap ∧ cap ≤ maxLen := by
    rcases hown.2 with ⟨_, h0⟩ | ⟨g, cap, cur, hv, hb, hg, hnc, hm, hcs, ht⟩
    · omega
    · exact ⟨g, cap, hv, hb, hnc, hm⟩
  have O1 := Lib.hid (Own.of_row hown)
  have T1 := Lib.hid hb
  have hg1 : g < w1.heap.size := ((Own.of_row hown).lt g (by unfold blk; rw [if_neg (by omega)]; rfl)).2
  have HS := Lib.hid (Try.slices_Sort_int g 0 cap l w1 (own_holds O1.out HN.out.symm hn) hg1 (by have := HN.out; omega))
  rw [← HN.out] at HS
  clear hown hb hT HC
  go_wp2_with fail
  refine HS.out.mono ?_
  rintro e w2 ⟨rfl, m, os, rfl⟩
  have O2 := Lib.hid (own_put (zs := M.sortI l) O1.out (by rw [HSL.out, HN.out]) hn m os)
  have T2 := Lib.hid (below_put (m := m) (d := (M.sortI l).toArray) (os := os) T1.out hbg T1.out.size)
  obtain ⟨w2, hw2⟩ : ∃ w2, w2 = grow (putRow (Value.int .i64) (Go.Sort.ahead w1 m) g 0 (M.sortI l).toArray) os := ⟨_, rfl⟩
  have e2 : grow (putRow (Value.int .i64) (Go.Sort.ahead w1 m) g 0 (l.mergeSort fun x y => decide (x ≤ y)).toArray) os = w2 := by rw [hw2]; rfl
  rw [e2]
  rw [← hw2] at O2 T2
  have HCC := Lib.hid (Try.slices_Compact_int g 0 cap (M.sortI l) w2 (own_holds O2.out (by rw [HSL.out, HN.out]) hn) (by rw [HSL.out]; have := HN.out; omega) (by rw [HSL.out, ← HN.out]; exact hcap))
  rw [HSL.out, ← HN.out, ← HQ.out] at HCC
  clear hw2 e2 HS
  go_wp2_with fail
  refine HCC.out.mono ?_
  rintro e w3 ⟨rfl, m3, rfl⟩
  have O3 := Lib.hid (own_put (zs := q ++ List.replicate (n - q.length) 0) O2.out (by rw [List.length_append, List.length_replicate]; omega) hn m3 #[])
  have T3 := Lib.hid (below_put (m := m3) (d := (q ++ List.replicate (n - q.length) 0).toArray) (os := #[]) T2.out hbg T2.out.size)
  rw [grow_empty] at O3 T3
  go_wp2_with fail
  go_ret
  refine ⟨some ⟨g, 0, none⟩, cap, rfl, ?_, T3.out⟩
  have h := O3.out.takeI hql
  have e : (ints (q ++ List.replicate (n - q.length) 0)).take q.length = ints q := by unfold ints; rw [List.map_append, List.take_append_of_le_length (by simp), List.take_of_length_le (by simp)]
  rw [e] at h
  exact h
end Go.Proofs.Ytlohpphmamapeaa
