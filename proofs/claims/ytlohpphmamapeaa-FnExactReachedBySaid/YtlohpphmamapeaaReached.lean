/-
  Contracts of ReachedBy.
  Conditions: at most 2^20 entries, at most 2^20 images.
-/
import Derived.Test.YtlohpphmamapeaaReachS
import Derived.Test.YtlohpphmamapeaaImg
import Derived.Test.YtlohpphmamapeaaThose
namespace Go.Proofs.Ytlohpphmamapeaa
open Go.RowKit
set_option linter.unusedVariables false
set_option linter.unusedSimpArgs false

def M.ReachedBy (k : Int) (xs ys : List Int) : List Int := if M.ImagesOk k xs ys = true then M.sel (M.reach k.toNat xs ys) k.toNat else []
theorem imagesOk_of {k : Int} {xs ys : List Int} (h : M.ImagesOk k xs ys = true) : M.TableOk k xs = true ∧ 1 ≤ ys.length ∧ ys.length ≤ 4 ∧ ∀ j, j < ys.length → 0 ≤ M.tAt ys j ∧ M.tAt ys j < k := by
  unfold M.ImagesOk at h
  obtain ⟨h1, h2⟩ := (Bool.and_eq_true _ _).mp h
  obtain ⟨h2, h3⟩ := (Bool.and_eq_true _ _).mp h2
  have h4 : 1 ≤ ys.length ∧ ys.length ≤ 4 := by
    simp [M.within] at h2
    omega
  refine ⟨h1, h4.1, h4.2, fun j hj => ?_⟩
  rw [M.tAt_eq hj]
  have h5 : M.outOf 0 (k - 1) ys[j] = false := by
    cases hc : M.outOf 0 (k - 1) ys[j] with
    | false => rfl
    | true =>
      have : ys.any (M.outOf 0 (k - 1)) = true := List.any_eq_true.2 ⟨_, List.getElem_mem hj, hc⟩
      rw [this] at h3
      cases h3
  simp [M.outOf, M.within] at h5
  omega
theorem reached_len (k : Int) (xs ys : List Int) : (M.ReachedBy k xs ys).length ≤ 40 := by
  unfold M.ReachedBy
  split
  · rename_i h
    have h1 := (tableOk_of (imagesOk_of h).1).1
    exact Nat.le_trans (M.sel_len _ _) (by omega)
  · simp
set_option maxRecDepth 100000 in
set_option maxHeartbeats 1000000 in
theorem reach1_c (n : Nat) (T : M.Tbl) (r bt i : Nat) (w : World) (hT : T.length = n) (hw : ∀ (z : Nat) (v : List UInt8), T[z]? = some (some v) → v ≠ [45]) (hi : i < n) (h0 : w.cell? ⟨bt, 0, none⟩ = some (.slice (some ⟨r, 0, none⟩) n n)) (hr : Rd w 1 (some ⟨r, 0, none⟩) n (tbls T)) :
    Calls Try.prog 74 #[.int .i64 i, .pointer (some ⟨bt, 0, none⟩)] w fun e w' => e = .returned (.bool (T.getD i none).isSome) ∧ Below w.heap.size w w' := by
  obtain ⟨g, o, e, hc⟩ := hr.2 (by omega)
  injection e with e
  injection e with e1 e2
  subst e1; subst e2
  have hci := hc i _ (tbls_at (T := T) (z := i) (by omega))
  rw [Nat.zero_add] at hci
  have hii : (i : Int) < (n : Int) := by omega
  clear hc hr
  obtain ⟨oz, hoz⟩ : ∃ oz, oz = T.getD i none := ⟨_, rfl⟩
  rw [← hoz] at hci ⊢
  cases oz
  case some v =>
    have hv : (v == [45]) = false := by
      have h := hw i v (tbl_get hoz.symm)
      simpa using h
    have hci : w.cell? ⟨r, i, none⟩ = some (.string ⟨v.toArray⟩) := hci
    clear hoz hw hT
    go_enter Try.func74, Try.ntmps74
    go_wp2_with fail
    go_ret
    exact ⟨rfl, Below.refl _ _⟩
  case none =>
    have hci : w.cell? ⟨r, i, none⟩ = some (.string ⟨[45].toArray⟩) := hci
    clear hoz hw hT
    go_enter Try.func74, Try.ntmps74
    go_wp2_with fail
    go_ret
    exact ⟨rfl, Below.refl _ _⟩
set_option maxRecDepth 100000 in
set_option maxHeartbeats 1000000 in
theorem reachThose1_c (n : Nat) (T : M.Tbl) (r b bt i : Nat) (w : World) (hT : T.length = n) (hw : ∀ (z : Nat) (v : List UInt8), T[z]? = some (some v) → v ≠ [45]) (hi : i < n) (hf : w.cell? ⟨b, 0, none⟩ = some (.func (.func 74) #[] #[.pointer (some ⟨bt, 0, none⟩)])) (h0 : w.cell? ⟨bt, 0, none⟩ = some (.slice (some ⟨r, 0, none⟩) n n)) (hr : Rd w 1 (some ⟨r, 0, none⟩) n (tbls T)) :
    Calls Try.prog 133 #[.int .i64 i, .pointer (some ⟨b, 0, none⟩)] w fun e w' => e = .returned (.bool (!(T.getD i none).isSome)) ∧ Below w.heap.size w w' := by
  have h3 := Lib.hid (reach1_c n T r bt i w hT hw hi h0 hr)
  generalize (T.getD i none).isSome = v at *
  clear hr h0 hT hw
  go_enter Try.func133, Try.ntmps133
  go_wp2_with fail
  refine h3.out.mono ?_
  rintro e w1 ⟨rfl, hb⟩
  go_wp2_with fail
  go_ret
  exact ⟨rfl, hb⟩
set_option maxRecDepth 100000 in
set_option maxHeartbeats 2000000 in
theorem impl_ReachedBy_c (k : Int) (A : Option Addr) (c : Nat) (xs : List Int) (D : Option Addr) (d : Nat) (ys : List Int) (w : World) (hA : Rd w 1 A xs.length (ints xs)) (hD : Rd w 1 D ys.length (ints ys)) (hl : xs.length ≤ 1048576) (hl2 : ys.length ≤ 1048576) :
    Calls Try.prog 25 #[.agg #[.int .i64 k, .slice A xs.length c], .slice D ys.length d] w (RetRd (fun A c => .slice A (M.ReachedBy k xs ys).length c) 1 (M.ReachedBy k xs ys).length (ints (M.ReachedBy k xs ys)) w) := by
  have HA := Lib.hid hA
  have HD := Lib.hid hD
  have h1 := Lib.hid (fun W h h' => impl_ImagesOk_c k A c xs D d ys W h h' hl hl2)
  have HP := Lib.hid (fun (o : Obj) => (Below.refl w.heap.size w).alloc (Nat.le_refl _) o)
  unfold M.ReachedBy
  obtain ⟨q, hq⟩ : ∃ q, q = M.ImagesOk k xs ys := ⟨_, rfl⟩
  rw [← hq] at h1 ⊢
  cases q
  case false =>
    rw [if_neg (by simp)]
    clear hA hD hq
    go_enter Try.func25, Try.ntmps25
    go_wp2_with fail
    refine (h1.out _ (HA.out.below (HP.out _)) (HD.out.below (HP.out _))).mono ?_
    rintro e w1 ⟨rfl, hb⟩
    go_wp2_with fail
    go_ret
    exact ⟨none, 0, rfl, ⟨rfl, fun h => absurd h (by simp)⟩, below_alloc1 hb⟩
  case true =>
  rw [if_pos rfl]
  obtain ⟨hto, hq1, hq4, hy⟩ := imagesOk_of hq.symm
  obtain ⟨⟨hk1, hk2⟩, hlen, hP, _⟩ := tableOk_of hto
  obtain ⟨n, rfl⟩ : ∃ n : Nat, k = n := ⟨k.toNat, by omega⟩
  simp only [Int.toNat_natCast] at hlen hP ⊢
  have hn1 : 1 ≤ n := by omega
  have hn : n ≤ 40 := by omega
  have HSH := Lib.hid (fun W h h' => shortest_c n A c xs D d ys W h h' hn1 hn hlen hP hy hq1 hq4)
  have HBI := Lib.hid (brun_inv (n := n) (xs := xs) (ys := ys) hn1 (fun x j hx hj => by
    have h := M.tI_in hP hlen (x := (x : Int)) (y := M.tAt ys j) (by omega) (hy j hj)
    unfold M.bz
    omega) hq4 n)
  have HT := Lib.hid (fun W h bt hc => those_c n A c xs (.func 74) #[.pointer (some ⟨bt, 0, none⟩)] (M.reach n xs ys) W h hl hc)
  have HTH : Hid (M.those n xs (M.reach n xs ys) = M.sel (M.reach n xs ys) n) := Lib.hid (by unfold M.those; rw [if_pos hto]; rfl)
  clear hA hD hq hP hy hlen
  have hmf : ∀ (fn : Fn) (first cap : Array Value) (w : World), (Instr.makeFunc fn first cap).run Try.prog w = .ok (.func fn first cap) w := fun _ _ _ _ => rfl
  go_enter Try.func25, Try.ntmps25
  go_wp2_with fail
  refine (h1.out _ (HA.out.below (HP.out _)) (HD.out.below (HP.out _))).mono ?_
  rintro e w1 ⟨rfl, hb⟩
  have c0 : w1.cell? ⟨w.heap.size, 0, none⟩ = some (.int .i64 n) := cellKeep hb (by simp [go_sem])
  have c1 : w1.cell? ⟨w.heap.size, 1, none⟩ = some (.slice A xs.length c) := cellKeep hb (by simp [go_sem])
  have T1 := Lib.hid (below_alloc1 hb)
  clear hb
  go_wp2_with fail
  refine (HSH.out _ (HA.out.below T1.out) (HD.out.below T1.out)).mono ?_
  rintro e w2 ⟨r, rfl, ho, hb⟩
  have C0 := cellKeep hb c0
  have C1 := cellKeep hb c1
  have T2 := Lib.hid (T1.out.trans (hb.mono T1.out.size))
  have HO2 := Lib.hid ho
  clear ho hb c0 c1
  have A2 := Lib.hid ((Below.refl w2.heap.size w2).alloc (Nat.le_refl _) (.cells #[.slice (some ⟨r, 0, none⟩) n n] 90))
  have D0 := cellKeep A2.out C0
  have D1 := cellKeep A2.out C1
  have T3 := Lib.hid (T2.out.trans (A2.out.mono T2.out.size))
  have HO3 := Lib.hid (HO2.out.rd.below A2.out)
  have D2 : (w2.alloc (.cells #[.slice (some ⟨r, 0, none⟩) n n] 90)).cell? ⟨w2.heap.size, 0, none⟩ = some (.slice (some ⟨r, 0, none⟩) n n) := by simp [go_sem]
  have DX := Lib.hid D2
  go_wp2_with fail
  generalize hw3 : w2.alloc (.cells #[.slice (some ⟨r, 0, none⟩) n n] 90) = w3 at *
  refine (HT.out _ (HA.out.below T3.out) w2.heap.size (fun htq b W hW hf i hi => ?_)).mono ?_
  · simp only [Int.toNat_natCast] at hi
    exact reachThose1_c n (M.brun n xs ys n).2 r b w2.heap.size i W HBI.out.len (fun z v h => (HBI.out.word z v h).1) hi hf (cellKeep hW DX.out) (HO3.out.below hW)
  · rintro e w4 ⟨A1, c1, rfl, ho, hb⟩
    rw [HTH.out] at ho ⊢
    have HO := Lib.hid (ho.mono (base' := w.heap.size) T3.out.size)
    have HB := Lib.hid (T3.out.trans (hb.mono T3.out.size))
    clear ho hb
    go_wp2_with fail
    go_ret
    exact ⟨_, _, rfl, HO.out, HB.out⟩
set_option maxRecDepth 100000 in
set_option maxHeartbeats 2000000 in
theorem spec_ReachedBy_c (k : Int) (A : Option Addr) (c : Nat) (xs : List Int) (D : Option Addr) (d : Nat) (ys : List Int) (w : World) (hA : Rd w 1 A xs.length (ints xs)) (hD : Rd w 1 D ys.length (ints ys)) (hl : xs.length ≤ 1048576) (hl2 : ys.length ≤ 1048576) :
    Calls Try.prog 22 #[.agg #[.int .i64 k, .slice A xs.length c], .slice D ys.length d] w (RetRd (fun A c => .slice A (M.ReachedBy k xs ys).length c) 1 (M.ReachedBy k xs ys).length (ints (M.ReachedBy k xs ys)) w) := by
  have HA := Lib.hid hA
  have HD := Lib.hid hD
  have h1 := Lib.hid (fun W h h' => spec_ImagesOk_c k A c xs D d ys W h h' hl hl2)
  have HP := Lib.hid (fun (o : Obj) => (Below.refl w.heap.size w).alloc (Nat.le_refl _) o)
  unfold M.ReachedBy
  obtain ⟨q, hq⟩ : ∃ q, q = M.ImagesOk k xs ys := ⟨_, rfl⟩
  rw [← hq] at h1 ⊢
  cases q
  case false =>
    rw [if_neg (by simp)]
    clear hA hD hq
    go_enter Try.func22, Try.ntmps22
    go_wp2_with fail
    refine (h1.out _ (HA.out.below (HP.out _)) (HD.out.below (HP.out _))).mono ?_
    rintro e w1 ⟨rfl, hb⟩
    go_wp2_with fail
    go_ret
    exact ⟨none, 0, rfl, ⟨rfl, fun h => absurd h (by simp)⟩, below_alloc1 hb⟩
  case true =>
  rw [if_pos rfl]
  obtain ⟨hto, hq1, hq4, hy⟩ := imagesOk_of hq.symm
  obtain ⟨⟨hk1, hk2⟩, hlen, hP, _⟩ := tableOk_of hto
  obtain ⟨n, rfl⟩ : ∃ n : Nat, k = n := ⟨k.toNat, by omega⟩
  simp only [Int.toNat_natCast] at hlen hP ⊢
  have hn1 : 1 ≤ n := by omega
  have hn : n ≤ 40 := by omega
  have HSH := Lib.hid (fun W h h' => l11Words_c n A c xs D d ys W h h' hn1 hn hlen hP hy hq1 hq4)
  have HLL := Lib.hid (fun A c W h => l09List_c (M.reach n xs ys) A c n W h hn)
  clear hA hD hq hP hy hlen
  go_enter Try.func22, Try.ntmps22
  go_wp2_with fail
  refine (h1.out _ (HA.out.below (HP.out _)) (HD.out.below (HP.out _))).mono ?_
  rintro e w1 ⟨rfl, hb⟩
  have c0 : w1.cell? ⟨w.heap.size, 0, none⟩ = some (.int .i64 n) := cellKeep hb (by simp [go_sem])
  have c1 : w1.cell? ⟨w.heap.size, 1, none⟩ = some (.slice A xs.length c) := cellKeep hb (by simp [go_sem])
  have T1 := Lib.hid (below_alloc1 hb)
  clear hb
  go_wp2_with fail
  refine (HSH.out _ (HA.out.below T1.out) (HD.out.below T1.out)).mono ?_
  rintro e w2 ⟨r1, r2, rfl, ho, hb⟩
  have T2 := Lib.hid (T1.out.trans (hb.mono T1.out.size))
  have HO2 := Lib.hid ho.rd
  clear ho hb c0 c1
  go_wp2_with fail
  refine (HLL.out _ _ _ HO2.out).mono ?_
  rintro e w3 ⟨A3, c3, rfl, ho, hb⟩
  have HO := Lib.hid ((Own.of_row ho).mono (base' := w.heap.size) T2.out.size)
  have HB := Lib.hid (T2.out.trans (hb.mono T2.out.size))
  clear ho hb
  go_wp2_with fail
  go_ret
  exact ⟨_, _, rfl, HO.out, HB.out⟩
end Go.Proofs.Ytlohpphmamapeaa
