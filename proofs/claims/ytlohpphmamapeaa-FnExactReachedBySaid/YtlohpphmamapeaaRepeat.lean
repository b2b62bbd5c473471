/-
  The contract of slices.Repeat at one string.
  Conditions: between 1 and 40 times.
-/
import Derived.Test.YtlohpphmamapeaaOwn
import Derived.Test.YtlohpphmamapeaaShelf
import Derived.Laws.CopyOwn
import Derived.Deep.RegionLaw
import Derived.StillTailTactics
namespace Go.Proofs.Ytlohpphmamapeaa
open Go.RowKit
set_option linter.unusedVariables false
set_option linter.unusedSimpArgs false

theorem own_of_heap {w : World} {base g n : Nat} {E : TypeId} {cur xs : List Value} (hg : w.heap[g]? = some (.cells cur.toArray E (0, 0))) (hb : base ≤ g) (hn : n ≤ cur.length) (hx : cur.take n = xs) : Own w base 1 (some ⟨g, 0, none⟩) n xs :=
  ⟨by rw [← hx, List.length_take]; omega, fun _ => ⟨g, 0, cur.toArray, E, rfl, hb, hg, by simpa using hn, by simpa using hx⟩⟩
def RepI (w : World) (g n : Nat) (v : Value) (E : TypeId) (cur : List Value) (m : Nat) : Prop := w.heap[g]? = some (.cells cur.toArray E (0, 0)) ∧ n ≤ cur.length ∧ cur.take m = List.replicate m v
theorem RepI.first {w w' : World} {g n : Nat} {v : Value} {E : TypeId} {cur : List Value} (h : RepI w g n v E cur 0) (hn : 1 ≤ n) (hg : w'.heap[g]? = some (.cells (splice cur 0 [v]).toArray E (0, 0))) : RepI w' g n v E (splice cur 0 [v]) 1 :=
  ⟨hg, by rw [length_splice _ _ _ (show 0 + 1 ≤ cur.length by have := h.2.1; omega)]; exact h.2.1, by simp [splice]⟩
theorem RepI.next {w w' : World} {g n m k : Nat} {v : Value} {E : TypeId} {cur : List Value} (h : RepI w g n v E cur m) (hk : m + k ≤ n) (hg : w'.heap[g]? = some (.cells (splice cur m (List.replicate k v)).toArray E (0, 0))) : RepI w' g n v E (splice cur m (List.replicate k v)) (m + k) := by
  refine ⟨hg, ?_, ?_⟩
  · rw [length_splice _ _ _ (by have := h.2.1; simp; omega)]; exact h.2.1
  · unfold splice
    have hl : (cur.take m ++ List.replicate k v).length = m + k := by rw [List.length_append, List.length_take, List.length_replicate]; have := h.2.1; omega
    rw [← List.append_assoc, List.take_left' hl, h.2.2, List.replicate_append_replicate]
theorem RepI.own {w : World} {base g n : Nat} {v : Value} {E : TypeId} {cur : List Value} (h : RepI w g n v E cur n) (hb : base ≤ g) : Own w base 1 (some ⟨g, 0, none⟩) n (List.replicate n v) := own_of_heap h.1 hb h.2.1 h.2.2
theorem repI_len {n m k : Nat} {v : Value} (hk : k = min m (n - m)) : (List.replicate k v).length = Nat.min m (n - m) := by rw [List.length_replicate, hk]
theorem repI_one {k : Nat} {v : Value} (h : v.oneCell' = true) : ∀ u ∈ List.replicate k v, u.oneCell' = true := fun u hu => by rw [List.eq_of_mem_replicate hu]; exact h
theorem repI_fit {w : World} {g n m k : Nat} {v : Value} {E : TypeId} {cur : List Value} (h : RepI w g n v E cur m) (hk : m + k ≤ n) : m + (List.replicate k v).length ≤ cur.length := by rw [List.length_replicate]; exact Nat.le_trans hk h.2.1
theorem RepI.pre {w : World} {g n m k : Nat} {v : Value} {E : TypeId} {cur : List Value} (h : RepI w g n v E cur m) (hk : k ≤ m) (hm : m ≤ n) : ∀ (j : Nat) (u : Value), (List.replicate k v)[j]? = some u → w.cell? ((⟨g, 0, none⟩ : Addr).add j) = some u := fun j u hu => by
  have ha : (⟨g, 0, none⟩ : Addr).add j = ⟨g, j, none⟩ := by unfold Addr.add; split <;> simp_all
  have hj : j < k := by have := (List.getElem?_eq_some_iff.1 hu).1; simpa using this
  rw [List.getElem?_replicate, if_pos hj] at hu
  rw [ha, cell_of_row w g j cur.toArray E (0, 0) h.1, ← Array.getElem?_toList, ← hu]
  have h3 := congrArg (fun l => l[j]?) h.2.2
  simp only [List.getElem?_take, List.getElem?_replicate] at h3
  rw [if_pos (by omega), if_pos (by omega)] at h3
  exact h3
theorem RepI.src {w : World} {b : Nat} {v : Value} (h : w.cell? ⟨b, 0, none⟩ = some v) : ∀ (j : Nat) (u : Value), ([v] : List Value)[j]? = some u → w.cell? ((⟨b, 0, none⟩ : Addr).add j) = some u := fun j u hu => by
  cases j with
  | zero => simp at hu; subst hu; exact h
  | succ j => simp at hu
theorem cell_below {w w' : World} {B b : Nat} {v : Value} (hb : Below B w w') (h1 : b < B) (h : w.cell? ⟨b, 0, none⟩ = some v) : w'.cell? ⟨b, 0, none⟩ = some v := by
  rw [← h]
  unfold World.cell?
  rw [hb.block b h1]
theorem strSize : (Try.prog.info? 9).map (·.size) = some 1 := by kernel_rfl
theorem make_rep {ops : Array Oper} {rest : List Oper} {o : Oper} {a : Act} {Q : Exit → Act → World → Prop} {w : World} {g : Nat} (hg : g = w.heap.size) (hgd : o.guard = none) (l : Operand) (ho : o.op = .makeSlice 90 l l)
    {kl : IntKind} {n : Nat} {v : Value} (hl : a.eval l = .int kl (n : Int)) (hn1 : 1 ≤ n) (hn : n ≤ 40)
    (h : ∀ w' cur E, Hid (RepI w' g n v E cur 0) → Hid (Below g w w') → wpList Try.prog ops Q rest (a.put o.dst (.slice (some ⟨g, 0, none⟩) n n)) w') : wpList Try.prog ops Q (o :: rest) a w := by
  subst hg
  refine make_law hgd l ho slString hl (by omega) fun zs w' _ hown hb => ?_
  obtain ⟨_, _, cur, E, hA, hbg, hgg, hll, ht⟩ := hown.2 (by omega)
  injection hA with hA
  injection hA with hA1 hA2
  subst hA1; subst hA2
  exact h w' cur.toList E (Lib.hid ⟨by simpa using hgg, by simpa using hll, rfl⟩) (Lib.hid hb)
set_option maxRecDepth 100000 in
set_option maxHeartbeats 2000000 in
theorem Repeat_s (b n : Nat) (v : Value) (w : World) (hv1 : v.oneCell' = true) (hc : w.cell? ⟨b, 0, none⟩ = some v) (hn1 : 1 ≤ n) (hn : n ≤ 40) :
    Calls Try.prog 128 #[.slice (some ⟨b, 0, none⟩) 1 1, .int .i64 n] w fun e w' => ∃ g, e = .returned (.slice (some ⟨g, 0, none⟩) n n) ∧ Own w' w.heap.size 1 (some ⟨g, 0, none⟩) n (List.replicate n v) ∧ Below w.heap.size w w' := by
  have HM := Lib.hid (fun W => Try.bits_Mul 1 n (by omega) (by omega) W)
  have e1 : 1 * n / 18446744073709551616 = 0 := by omega
  have e2 : 1 * n % 18446744073709551616 = n := by omega
  rw [e1, e2] at HM
  have HC := Lib.hid hc
  have hv1 := Lib.hid hv1
  have hbw : b < w.heap.size := World.block_lt_of_cell? w _ hc
  clear e1 e2 hc
  go_enter Try.func128, Try.ntmps128
  go_wp2_with fail
  refine (HM.out _).mono ?_
  rintro e w1 ⟨rfl, rfl⟩
  have hz0 : ((0 : Nat) : Int) = 0 := rfl
  obtain ⟨g, hg⟩ : ∃ g, g = w1.heap.size := ⟨_, rfl⟩
  have HGS := Lib.hid (show g = w1.heap.size from hg)
  have HBG := Lib.hid (show b < g by rw [hg]; exact hbw)
  clear hbw hg
  go_wp2_with (first
    | (at_make; refine make_rep (v := v) HGS.out rfl _ rfl rfl (by omega) (by omega) ?_; intro w2 cur0 E HG0 HB2; have HE := Lib.hid (cell_below HB2.out HBG.out HC.out))
    | (refine wpList_copy_splice rfl (.tmp 31) (.tmp 32) _ _ rfl _ slString.und strSize _ _ _ _ _ _ rfl rfl g 0 cur0 E HG0.out.1 [v] (show 1 = Nat.min 1 n from (Nat.min_eq_left hn1).symm) (fun _ => ⟨rfl, _, rfl, RepI.src HE.out⟩) (show 0 + 1 ≤ cur0.length from Nat.le_trans (by omega) HG0.out.2.1) (fun u hu => by rw [List.mem_singleton.1 hu]; exact hv1.out) g w1 HB2.out (Nat.le_refl _) ?_; intro w3 HG3 HB3))
  have hE1 : [v].length = 1 := rfl
  have HR3 := Lib.hid (RepI.first HG0.out (show 1 ≤ n from hn1) HG3.out)
  have hB3 := HB3
  clear HG3 HB3 HE HG0 HB2 HC
  go_loopw [8] (fun z wr => ∃ (m : Nat) (cur : List Value), 1 ≤ m ∧ m ≤ n ∧ z = .int .i64 m ∧ RepI wr g n v E cur m ∧ Below g w1 wr) (fun z _ => n - (intOf z).toNat)
  case atStart => exact ⟨1, splice cur0 0 [v], Nat.le_refl _, hn1, rfl, HR3.out, hB3⟩
  case round =>
    obtain ⟨m, cur, hm1, hmn, rfl, hrep, hb⟩ := hrel
    have HR := Lib.hid hrep
    have HB := Lib.hid hb
    clear hrep hb HR3 hB3
    by_cases hlt : m < n
    case neg =>
      obtain rfl : m = n := by omega
      go_wp2_with fail
      go_ret
      have HW := HGS.out
      exact ⟨g, rfl, (HR.out.own (Nat.le_refl _)).mono (Nat.le_of_eq HW.symm), HB.out.mono (Nat.le_of_eq HW.symm)⟩
    case pos =>
    go_wp2_with fail
    have hg1 : (0 : Int) ≤ (m : Int) := by omega
    have hg2 : (m : Int) ≤ (n : Int) := by omega
    obtain ⟨k, hk⟩ : ∃ k, k = min m (n - m) := ⟨_, rfl⟩
    have hk1 : k ≤ m := by omega
    have hk2 : m + k ≤ n := by omega
    have hk3 := Lib.hid (show 1 ≤ k by omega)
    have HK := Lib.hid hk
    clear hk
    have HBd := Lib.hid (show Below g w1 wr.drew from HB.out.drew)
    have HRd := Lib.hid (show RepI wr.drew g n v E cur m from HR.out)
    have hnm : ¬ n = m := by omega
    go_region_law (refine step_copy_splice rfl (.tmp 41) (.tmp 44) 90 90 rfl 9 slString.und strSize (some ⟨g, m, none⟩) (some ⟨g, 0, none⟩) (n - m) (n - m) m n (by simp [go_sem]) (by simp [go_sem]) g m cur E HRd.out.1 (List.replicate k v) (repI_len HK.out) (fun _ => ⟨rfl, _, rfl, RepI.pre HRd.out hk1 hmn⟩) (repI_fit HRd.out hk2) (repI_one hv1.out) g w1 HBd.out (Nat.le_refl _) ?_; intro w4 HG4 HB4)
    have hwr : IntKind.i64.wrap ((m : Int) + (k : Int)) = ((m + k : Nat) : Int) := by rw [IntWalk.i64_in _ ⟨by omega, by omega⟩]; push_cast; rfl
    simp [go_sem, hwr, -Int.natCast_add]
    go_roundw
    case rel => exact ⟨_, _, _, _, _, _, _, _, _, _, _, _, _, _, ⟨m + k, splice cur m (List.replicate k v), by omega, hk2, rfl, RepI.next HRd.out hk2 HG4.out, HB4⟩, rfl⟩
    case measure =>
      have := hk3.out
      simp [intOf] <;> omega
end Go.Proofs.Ytlohpphmamapeaa
