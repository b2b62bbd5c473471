/-
  Contracts of SplitLines and of strings.Split at one byte.
  Conditions: at most 2^20 bytes; the global MaxLen holds an int.
-/
import Derived.Test.YtkdccehihpgcdaaDoorParse
import Derived.Test.YtkdccehihpgcdaaDoorOwn
import Derived.Lib.SplitLaws
namespace Go.Proofs.YtkdccehihpgcdaaDoor
open Go.RowKit
set_option linter.unusedVariables false
set_option linter.unusedSimpArgs false

/-- strings.Split at one byte cuts as SplitAny. -/
theorem splitK_any (c : UInt8) : ∀ (n : Nat) (s : List UInt8), s.length ≤ n → Lib.splitK [c] 0 (Lib.count s [c]) s = M.SplitAny s [c]
  | n, s, hn => by
    by_cases hc : c ∈ s
    · obtain ⟨a, b, rfl, ha⟩ := List.eq_append_cons_of_mem hc
      have hix : Lib.index (a ++ c :: b) [c] = ((a.length : Nat) : Int) := by rw [Lib.index_one, indexByte_at ha]
      have hd : (a ++ c :: b).drop (a.length + 1) = b := by rw [← List.drop_drop, List.drop_left]; rfl
      rw [Lib.count_hit (by simp) hix, show ([c] : List UInt8).length = 1 from rfl, hd, Nat.add_comm, Lib.splitK, if_neg (by rw [hix]; simp), hix, split_at ha]
      have ht : (a ++ c :: b).take ((a.length : Int).toNat + 0) = a := by simp
      have hd' : (a ++ c :: b).drop ((a.length : Int).toNat + ([c] : List UInt8).length) = b := by rw [Int.toNat_natCast]; exact hd
      rw [ht, hd']
      cases n with
      | zero => simp at hn
      | succ n => rw [splitK_any c n b (by simp at hn; omega)]
    · have hix : Lib.index s [c] = -1 := by rw [Lib.index_one, indexByte_no hc]
      rw [Lib.count_miss hix, split_none hc]
      rfl

/-- strings.Split at one byte: a row of the call's own. -/
theorem split_c (m : Int) (l : List UInt8) (c : UInt8) (w : World) (hl : l.length ≤ 1048576) (hm : w.cell? ⟨2, 0, none⟩ = some (.int .i64 m)) :
    Calls Tryd.prog 43 #[.string ⟨l.toArray⟩, .string ⟨#[c]⟩] w fun e w' => e = .returned (.slice (some ⟨w.heap.size, 0, none⟩) (M.SplitAny l [c]).length (M.SplitAny l [c]).length) ∧ w'.ownsRow w.heap.size 9 1 (.slice (some ⟨w.heap.size, 0, none⟩) (M.SplitAny l [c]).length (M.SplitAny l [c]).length) (M.SplitAny l [c]).length (strs (M.SplitAny l [c])) ∧ Below w.heap.size w w' := by
  have h := Tryd.strings_Split ⟨l.toArray⟩ ⟨#[c]⟩ m w (by simp [ByteArray.size]; omega) hm (Nat.le_refl 1)
  have hd := Lib.splitB_data ⟨#[c]⟩ 0 (Lib.countB ⟨l.toArray⟩ ⟨#[c]⟩) ⟨l.toArray⟩
  have hc : Lib.countB ⟨l.toArray⟩ ⟨#[c]⟩ = Lib.count l [c] := rfl
  have hs : (Lib.splitB ⟨#[c]⟩ 0 (Lib.countB ⟨l.toArray⟩ ⟨#[c]⟩) ⟨l.toArray⟩).map Value.string = strs (M.SplitAny l [c]) := by
    rw [← splitK_any c l.length l (Nat.le_refl _), ← hc]
    have e1 : Lib.splitK [c] 0 (Lib.countB ⟨l.toArray⟩ ⟨#[c]⟩) l = (Lib.splitB ⟨#[c]⟩ 0 (Lib.countB ⟨l.toArray⟩ ⟨#[c]⟩) ⟨l.toArray⟩).map (·.data.toList) := hd.symm
    rw [e1, strs, List.map_map]
    refine List.map_congr_left fun x _ => ?_
    cases x
    simp
  have hn : Lib.countB ⟨l.toArray⟩ ⟨#[c]⟩ + 1 = (M.SplitAny l [c]).length := by
    have h1 := congrArg List.length hs
    rw [List.length_map, Lib.splitB_all ⟨#[c]⟩ (Nat.le_refl 1) 0 _ _ rfl] at h1
    rw [h1]
    simp [strs]
  rw [hs, hn] at h
  refine h.mono fun e w' ⟨he, hw⟩ => ⟨he, ?_, ?_⟩
  · rw [hw]
    have hsz := M.SplitAny_len l [c]
    refine ⟨by simp [strs], Or.inr ⟨w.heap.size, _, (strs (M.SplitAny l [c])).toArray, rfl, Nat.le_refl _, heap_alloc_new _ _, Nat.le_refl _, by simp only [maxLen]; omega, by simp [strs], ?_⟩⟩
    simp only [Nat.mul_one]
    exact List.take_of_length_le (by simp [strs])
  · rw [hw]; exact (Below.refl _ _).alloc (Nat.le_refl _) _

theorem Own.take {w : World} {base size n m : Nat} {A : Option Addr} {xs : List Value} (h : Own w base size A n xs) (hm : m ≤ n) : Own w base size A m (xs.take (m * size)) := by
  have hle := Nat.mul_le_mul_right size hm
  refine ⟨by rw [List.length_take, h.1]; omega, fun hp => ?_⟩
  obtain ⟨g, o, cur, E, hA, hb, hg, hl, ht⟩ := h.2 (by omega)
  exact ⟨g, o, cur, E, hA, hb, hg, by omega, by rw [← ht, List.take_take, Nat.min_eq_left hle]⟩
def M.SplitLines (s : List UInt8) : List (List UInt8) := if (M.SplitAny s [10]).getLast? = some [] then (M.SplitAny s [10]).dropLast else M.SplitAny s [10]
theorem splitLines_len (s : List UInt8) : (M.SplitLines s).length ≤ s.length + 1 := by
  unfold M.SplitLines
  have := M.SplitAny_len s [10]
  split
  · rw [List.length_dropLast]; omega
  · exact this
theorem splitLines_yes {s : List UInt8} {n : Nat} (hn : (M.SplitAny s [10]).length = n + 1) (h : (M.SplitAny s [10])[n]? = some []) : M.SplitLines s = (M.SplitAny s [10]).take n := by
  have hne : M.SplitAny s [10] ≠ [] := fun e => by rw [e] at hn; simp at hn
  unfold M.SplitLines
  rw [if_pos, List.dropLast_eq_take, hn, Nat.add_sub_cancel]
  rw [List.getLast?_eq_getElem?, hn, Nat.add_sub_cancel, h]
theorem splitLines_no {s : List UInt8} {n : Nat} (hn : (M.SplitAny s [10]).length = n + 1) (h : (M.SplitAny s [10])[n]? ≠ some []) : M.SplitLines s = M.SplitAny s [10] := by
  unfold M.SplitLines
  rw [if_neg]
  rw [List.getLast?_eq_getElem?, hn, Nat.add_sub_cancel]
  exact h
theorem split_ne (s by_ : List UInt8) : ∃ n, (M.SplitAny s by_).length = n + 1 := ⟨_, by unfold M.SplitAny; rw [List.length_append]; rfl⟩
theorem own_cap {w : World} {base size n c : Nat} {e : TypeId} {A : Option Addr} {xs : List Value} (h : w.ownsRow base e size (.slice A n c) n xs) (hn : 0 < n) : n ≤ c ∧ c ≤ maxLen := by
  rcases h.2 with ⟨_, h0⟩ | ⟨g, cap, cur, hv, hb, hg, hnc, hm, hcs, ht⟩
  · omega
  · injection hv with hA hn' hc
    subst hc
    exact ⟨hnc, hm⟩
theorem strs_take (zs : List (List UInt8)) (n : Nat) : (strs zs).take (n * 1) = strs (zs.take n) := by simp [strs, List.map_take]
set_option maxRecDepth 100000 in
set_option maxHeartbeats 1000000 in
theorem spec_SplitLines_c (l : List UInt8) (w : World) (hl : l.length ≤ 1048576) :
    Calls Tryd.prog 19 #[.string ⟨l.toArray⟩] w (RetRd (fun A c => .slice A (M.SplitLines l).length c) 1 (M.SplitLines l).length (strs (M.SplitLines l)) w) := by
  have h1 := Lib.hid (fun W => spec_SplitAny_c l [10] W hl (by simp))
  obtain ⟨n, hn⟩ := split_ne l [10]
  have hlen := M.SplitAny_len l [10]
  have hY := Lib.hid (fun h => splitLines_yes hn h)
  have hN := Lib.hid (fun h => splitLines_no hn h)
  obtain ⟨zs, hzs⟩ : ∃ zs, zs = M.SplitAny l [10] := ⟨_, rfl⟩
  rw [hn] at h1
  simp only [← hzs] at h1 hY hN hn hlen
  clear hzs
  have HN := Lib.hid hn
  have hn1 : n ≤ 1048576 := by omega
  go_enter Tryd.func19, Tryd.ntmps19
  go_wp2_with fail
  refine (h1.out _).mono ?_
  rintro e w1 ⟨A, c, rfl, hown, hb⟩
  obtain ⟨hc1, hc2⟩ := own_cap hown (by omega)
  have RD := Lib.hid (show Rd w1 1 A zs.length (strs zs) by rw [HN.out]; exact Rd.of_own hown)
  have OW := Lib.hid (show Own w1 w.heap.size 1 A zs.length (strs zs) by rw [HN.out]; exact Own.of_row hown)
  have T := Lib.hid hb
  clear hown hb
  obtain ⟨b, o, rfl, hz, hcell⟩ := RD.out.strAt (k := n) (by omega)
  have hi : ((n + 1 : Nat) : Int) - 1 = n := by omega
  generalize hzz : zs[n] = z at *
  by_cases hz0 : z = []
  · have HY := Lib.hid (hY.out (by rw [List.getElem?_eq_getElem hz, hzz, hz0]))
    subst hz0
    clear hY hN hzz hn
    go_wp2_with fail
    go_ret
    rw [HY.out]
    have hlt : (zs.take n).length = n := by rw [List.length_take, HN.out]; omega
    refine ⟨some ⟨b, o, none⟩, c, by rw [hlt]; rfl, ?_, T.out⟩
    rw [hlt, ← strs_take]
    exact OW.out.take (by have := HN.out; omega)
  · have HNN := Lib.hid (hN.out (by rw [List.getElem?_eq_getElem hz, hzz]; simpa using hz0))
    have hze : z.isEmpty = false := by cases z with
      | nil => exact absurd rfl hz0
      | cons a r => rfl
    clear hY hN hzz hn
    go_wp2_with fail
    go_ret
    rw [HNN.out]
    exact ⟨some ⟨b, o, none⟩, c, by rw [HN.out]; rfl, OW.out, T.out⟩
set_option maxRecDepth 100000 in
set_option maxHeartbeats 1000000 in
theorem clip_c (b o n c : Nat) (w : World) (hn : n ≤ c) (hc : c ≤ 1099511627776) : Calls Tryd.prog 44 #[.slice (some ⟨b, o, none⟩) n c] w fun e w' => e = .returned (.slice (some ⟨b, o, none⟩) n n) ∧ w = w' := by
  go_enter Tryd.func44, Tryd.ntmps44
  go_wp2_with fail
  go_ret
  exact ⟨rfl, rfl⟩
set_option maxRecDepth 100000 in
set_option maxHeartbeats 1000000 in
theorem impl_SplitLines_c (m : Int) (l : List UInt8) (w : World) (hl : l.length ≤ 1048576) (hm : w.cell? ⟨2, 0, none⟩ = some (.int .i64 m)) :
    Calls Tryd.prog 18 #[.string ⟨l.toArray⟩] w (RetRd (fun A c => .slice A (M.SplitLines l).length c) 1 (M.SplitLines l).length (strs (M.SplitLines l)) w) := by
  have h1 := Lib.hid (fun W hm => split_c m l 10 W hl hm)
  have HM0 := Lib.hid hm
  clear hm
  obtain ⟨n, hn⟩ := split_ne l [10]
  have hlen := M.SplitAny_len l [10]
  have hY := Lib.hid (fun h => splitLines_yes hn h)
  have hN := Lib.hid (fun h => splitLines_no hn h)
  obtain ⟨zs, hzs⟩ : ∃ zs, zs = M.SplitAny l [10] := ⟨_, rfl⟩
  rw [hn] at h1
  simp only [← hzs] at h1 hY hN hn hlen
  clear hzs
  have HN := Lib.hid hn
  have hn1 : n ≤ 1048576 := by omega
  go_enter Tryd.func18, Tryd.ntmps18
  go_wp2_with fail
  refine (h1.out _ HM0.out).mono ?_
  rintro e w1 ⟨rfl, hown, hb⟩
  have RD := Lib.hid (show Rd w1 1 (some ⟨w.heap.size, 0, none⟩) zs.length (strs zs) by rw [HN.out]; exact Rd.of_own hown)
  have OW := Lib.hid (show Own w1 w.heap.size 1 (some ⟨w.heap.size, 0, none⟩) zs.length (strs zs) by rw [HN.out]; exact Own.of_row hown)
  have T := Lib.hid hb
  clear hown hb
  obtain ⟨b, o, hbo, hz, hcell⟩ := RD.out.strAt (k := n) (by omega)
  rw [hbo] at OW
  obtain ⟨B, hB⟩ : ∃ B, B = w.heap.size := ⟨_, rfl⟩
  have hb1 : b = B ∧ o = 0 := by injection hbo with h; injection h with h1 h2; omega
  obtain ⟨rfl, rfl⟩ := hb1
  simp only [Nat.zero_add] at hcell
  rw [← hB]
  have HB := Lib.hid hB
  clear hbo hB
  have hi : ((n + 1 : Nat) : Int) - 1 = n := by omega
  generalize hzz : zs[n] = z at *
  by_cases hz0 : z = []
  · have HY := Lib.hid (hY.out (by rw [List.getElem?_eq_getElem hz, hzz, hz0]))
    subst hz0
    clear hY hN hzz hn
    go_wp2_with fail
    refine (clip_c _ 0 n (n + 1) _ (by omega) (by omega)).mono ?_
    rintro e w2 ⟨rfl, rfl⟩
    go_wp2_with fail
    go_ret
    rw [HY.out]
    have hlt : (zs.take n).length = n := by rw [List.length_take, HN.out]; omega
    refine ⟨_, _, by rw [hlt]; rfl, ?_, T.out⟩
    rw [hlt, ← strs_take]
    exact OW.out.take (by have := HN.out; omega)
  · have HNN := Lib.hid (hN.out (by rw [List.getElem?_eq_getElem hz, hzz]; simpa using hz0))
    have hze : z.isEmpty = false := by cases z with
      | nil => exact absurd rfl hz0
      | cons a r => rfl
    clear hY hN hzz hn
    go_wp2_with fail
    refine (clip_c _ 0 (n + 1) (n + 1) _ (by omega) (by omega)).mono ?_
    rintro e w2 ⟨rfl, rfl⟩
    go_wp2_with fail
    go_ret
    rw [HNN.out]
    exact ⟨_, _, by rw [HN.out]; rfl, OW.out, T.out⟩
end Go.Proofs.YtkdccehihpgcdaaDoor
