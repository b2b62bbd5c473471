/-
  Contracts of PairsOf.
  Conditions: at most 2^20 rules.
-/
import Derived.Test.YtlohpphmamapeaaPairsM
import Derived.Test.YtlohpphmamapeaaVal
import Derived.Test.YtlohpphmamapeaaOwn
import Derived.BigQuiet
import Derived.Deep.RegionHeld3
namespace Go.Proofs.Ytlohpphmamapeaa
open Go.RowKit
set_option linter.unusedVariables false
set_option linter.unusedSimpArgs false

set_option maxRecDepth 100000 in
set_option maxHeartbeats 4000000 in
theorem inside_c (k : Int) (A : Option Addr) (c : Nat) (rs : List M.Rule) (i j : Nat) (w : World) (hA : Rd w 2 A rs.length (ruls rs)) (hl : rs.length ≤ 1048576) (hi : i < rs.length) (hj : j < rs.length) (h8 : ∀ i, (M.lft rs i).length ≤ 8) :
    Calls Try.prog 173 #[.agg #[.int .i64 k, .slice A rs.length c], .int .i64 i, .int .i64 j] w (RetPairs (M.inside rs i j) w) := by
  unfold M.inside
  by_cases hij : i = j
  case pos =>
    rw [if_pos hij]
    have hij' : ((i : Int) == (j : Int)) = true := by rw [beq_iff_eq]; omega
    clear hA hij
    go_enter Try.func173, Try.ntmps173
    go_wp2_with fail
    go_ret
    exact ⟨⟨w.heap.size + 1, 0, none⟩, 0, by simp, own_base (own_empty w _) (by omega), ((Below.refl _ _).alloc (Nat.le_refl _) _).alloc (by simp) _⟩
  case neg =>
  rw [if_neg hij]
  have hij' : ((i : Int) == (j : Int)) = false := by rw [beq_eq_false_iff_ne]; omega
  have HA := Lib.hid hA
  obtain ⟨b, o, hA0, hzi, hc1, _⟩ := hA.ruleAt (k := i) hi
  obtain ⟨b', o', e1, hzj, hd1, _⟩ := hA.ruleAt (k := j) hj
  subst hA0
  injection e1 with e1
  injection e1 with e1 e2
  subst e1 e2
  rw [← lft_at hzi] at hc1
  rw [← lft_at hzj] at hd1
  have hli := h8 i
  have hlj := h8 j
  have k1 := fun x y => allocKeep2 hc1 x y
  have k2 := fun x y => allocKeep2 hd1 x y
  obtain ⟨m0, hm0⟩ : ∃ m0, m0 = rs.length := ⟨_, rfl⟩
  rw [← hm0] at HA hl hi hj ⊢
  obtain ⟨f, hf⟩ : ∃ f, f = M.inPair rs i j := ⟨_, rfl⟩
  have HF := Lib.hid (show ∀ p, f p = ⟨M.lft rs i, i, 0, j, p⟩ from fun p => by rw [hf]; rfl)
  rw [← hf]
  obtain ⟨li, hlieq⟩ : ∃ l, l = M.lft rs i := ⟨_, rfl⟩
  obtain ⟨lj, hljeq⟩ : ∃ l, l = M.lft rs j := ⟨_, rfl⟩
  rw [← hlieq] at k1 hli HF ⊢
  rw [← hljeq] at k2 hlj ⊢
  
  have HC := Lib.hid (fun W => spec_PlacesOf_c li lj W (by omega) (by omega))
  have HIN := Lib.hid (fun z (h : z ∈ M.PlacesOf li lj) => places_mem h)
  have hnb := places_len li lj
  generalize M.PlacesOf li lj = ps at *
  obtain ⟨n, hn⟩ : ∃ n, n = ps.length := ⟨_, rfl⟩
  have HN := Lib.hid hn
  rw [← hn] at HC hnb
  rw [← hlieq] at hc1
  clear hA hd1 hm0 hf hlieq hljeq hn hij h8
  go_enter Try.func173, Try.ntmps173
  obtain ⟨ws, hws⟩ : ∃ ws, ws = (w.alloc (.cells #[.int .i64 k, .slice (some ⟨b, o, none⟩) m0 c] 28)).alloc (.cells #[] 131) := ⟨_, rfl⟩
  have HWS := Lib.hid (show ws.heap.size = w.heap.size + 2 by rw [hws]; simp)
  have c1 : ws.cell? ⟨w.heap.size, 1, none⟩ = some (.slice (some ⟨b, o, none⟩) m0 c) := by rw [hws]; simp [go_sem]
  have c2 : ws.cell? ⟨b, o + i * 2, none⟩ = some (.string ⟨li.toArray⟩) := by rw [hws]; exact k1 _ _
  have c3 : ws.cell? ⟨b, o + j * 2, none⟩ = some (.string ⟨lj.toArray⟩) := by rw [hws]; exact k2 _ _
  have HOE := Lib.hid (show ws.ownsRow (w.heap.size + 1) 131 5 (.slice (some ⟨w.heap.size + 1, 0, none⟩) 0 0) 0 [] by rw [hws]; exact own_empty w _)
  have HWSE := Lib.hid hws
  go_wp2_with fail
  rw [← hws]
  clear hws k1 k2
  go_region_held3 (fun w' => w'.cell? ⟨w.heap.size, 1, none⟩ = some (.slice (some ⟨b, o, none⟩) m0 c) ∧ w'.cell? ⟨b, o + i * 2, none⟩ = some (.string ⟨li.toArray⟩) ∧ w'.cell? ⟨b, o + j * 2, none⟩ = some (.string ⟨lj.toArray⟩) ∧ Below ws.heap.size ws w') (first | exact ⟨c1, c2, c3, (Below.refl _ _).drew⟩ | assumption | exact held3 (by assumption) hb) (first | (go_simp; go_at_call 146; refine (HC.out _).mono ?_; rintro e w1 ⟨A1, c1, rfl, hown, hb⟩))
  all_goals
  have hS : w1.cell? ⟨w.heap.size, 1, none⟩ = some (.slice (some ⟨b, o, none⟩) m0 c) ∧ w1.cell? ⟨b, o + i * 2, none⟩ = some (.string ⟨li.toArray⟩) ∧ w1.cell? ⟨b, o + j * 2, none⟩ = some (.string ⟨lj.toArray⟩) ∧ Below ws.heap.size ws w1 := by assumption
  obtain ⟨D1', G1', _, hB⟩ := hS
  have D1 := Lib.hid D1'
  have G1 := Lib.hid G1'
  have HO1 := Lib.hid (Rd.of_own hown)
  have HS1 := Lib.hid (show w.heap.size + 2 ≤ w1.heap.size by have h := hB.size; have := HWS.out; omega)
  have HE := Lib.hid (own_below HOE.out hB)
  have HOI := Lib.hid (show w1.ownsRow w.heap.size 3 1 (.slice A1 n c1) n (ints ps) from own_base hown (by have h1 := HWS.out; simp; omega))
  obtain ⟨wb, hwb⟩ : ∃ wb : World, wb = w.alloc (.cells #[.int .i64 k, .slice (some ⟨b, o, none⟩) m0 c] 28) := ⟨_, rfl⟩
  have HB1 := Lib.hid (show Below (w.heap.size + 1) wb w1 by have h := hB; rw [HWSE.out, ← hwb] at h; refine ((Below.refl _ _).alloc (by rw [hwb]; simp) _).trans (h.mono ?_); rw [hwb]; simp)
  clear hown hB
  have HWB := Lib.hid (show wb.heap.size = w.heap.size + 1 by rw [hwb]; simp)
  have HBW := Lib.hid (show Below w.heap.size w wb by rw [hwb]; exact (Below.refl _ _).alloc (Nat.le_refl _) _)
  have DB := Lib.hid (show wb.cell? ⟨w.heap.size, 1, none⟩ = some (.slice (some ⟨b, o, none⟩) m0 c) by rw [hwb]; simp [go_sem])
  have GB := Lib.hid (show wb.cell? ⟨b, o + i * 2, none⟩ = some (.string ⟨li.toArray⟩) by rw [hwb]; exact allocKeep1 hc1 _)
  have HBL := Lib.hid (World.block_lt_of_cell? w _ hc1)
  clear hwb hc1
  have d1 := D1.out
  have g1 := G1.out
  go_wp2_with fail
  clear d1 g1
  go_loopw [7, 29] (fun s z wr => ∃ (q : Nat) (ad : Addr) (m c2 : Nat), q ≤ n ∧ z = .int .i64 q ∧ s = .slice (some ad) m c2 ∧ m = q ∧ wr.ownsRow (w.heap.size + 1) 131 5 (.slice (some ad) m c2) m (pairs_ ((ps.take q).map f)) ∧ Below (w.heap.size + 1) wb wr ∧ wr.ownsRow w.heap.size 3 1 (.slice A1 n c1) n (ints ps)) (fun _ z _ => n - (intOf z).toNat)
  case atStart => exact ⟨0, _, 0, 0, by omega, rfl, rfl, rfl, HE.out, HB1.out, HOI.out⟩
  case round =>
    obtain ⟨q, ad, m, c2, hq, rfl, rfl, rfl, hown, hb, hoi⟩ := hrel
    have HO := Lib.hid hown
    have HB := Lib.hid hb
    have HI := Lib.hid hoi
    have d1 := cellBelow hb (by omega) DB.out
    have g1 := cellBelow hb (by have := HBL.out; omega) GB.out
    by_cases hlt : m < n
    case neg =>
      obtain rfl : m = n := by omega
      have HT := Lib.hid (show (ps.take m).map f = ps.map f by rw [List.take_of_length_le (by have := HN.out; omega)])
      clear hown hb hoi
      go_wp2
      go_ret
      exact ⟨ad, c2, by rw [List.length_map, ← HN.out]; rfl, by rw [List.length_map, ← HN.out, ← HT.out]; exact own_base HO.out (by omega), HBW.out.trans (HB.out.mono (by omega))⟩
    case pos =>
      obtain ⟨a1, o1, hA1, hz, hv⟩ := (Rd.of_own hoi).intAt hlt
      subst hA1
      obtain ⟨z, hzz, hzb⟩ := HIN.out ps[m] (List.getElem_mem hz)
      have HT := Lib.hid (show (ps.take (m + 1)).map f = (ps.take m).map f ++ [f ps[m]] by rw [List.take_succ_eq_append_getElem hz, List.map_append]; rfl)
      have HFZ := Lib.hid (HF.out ps[m])
      rw [hzz] at HT HFZ hv
      generalize f (z : Int) = fz at *
      clear hown hb hoi hzz
      
      go_wp2_with (at_builtin; (first | (refine push_law_g rfl _ _ rfl slPair rfl HO.out (us := [.string ⟨li.toArray⟩, .int .i64 i, .int .i64 0, .int .i64 j, .int .i64 z]) rfl rfl (by simp [Value.oneCell']) HB.out HWB.out.symm (by omega) ?_) | (refine push_law_gd rfl _ _ rfl slPair rfl HO.out (us := [.string ⟨li.toArray⟩, .int .i64 i, .int .i64 0, .int .i64 j, .int .i64 z]) rfl rfl (by simp [Value.oneCell']) HB.out HWB.out.symm (by omega) ?_)); intro A3 c3 w3 hown3 hb3 hg3)
      obtain ⟨ad3, rfl⟩ := own_some hown3 (by omega)
      go_roundw
      case rel => exact ⟨m + 1, ad3, m + 1, c3, by omega, by go_num, rfl, rfl, by rw [HT.out, pairs_add, HFZ.out]; exact hown3, hb3, (HI.out.alloc _).kept hg3 (own_apart HI.out HO.out (by decide))⟩
      case measure => simp [intOf] <;> omega

set_option maxRecDepth 100000 in
set_option maxHeartbeats 4000000 in
theorem across_c (k : Int) (A : Option Addr) (c : Nat) (rs : List M.Rule) (i j : Nat) (w : World) (hA : Rd w 2 A rs.length (ruls rs)) (hl : rs.length ≤ 1048576) (hi : i < rs.length) (hj : j < rs.length) (h8 : ∀ i, (M.lft rs i).length ≤ 8) :
    Calls Try.prog 174 #[.agg #[.int .i64 k, .slice A rs.length c], .int .i64 i, .int .i64 j] w (RetPairs (M.across rs i j) w) := by
  unfold M.across
  have HA := Lib.hid hA
  obtain ⟨b, o, hA0, hzi, hc1, _⟩ := hA.ruleAt (k := i) hi
  obtain ⟨b', o', e1, hzj, hd1, _⟩ := hA.ruleAt (k := j) hj
  subst hA0
  injection e1 with e1
  injection e1 with e1 e2
  subst e1 e2
  rw [← lft_at hzi] at hc1
  rw [← lft_at hzj] at hd1
  have hli := h8 i
  have hlj := h8 j
  have k1 := fun x y => allocKeep2 hc1 x y
  have k2 := fun x y => allocKeep2 hd1 x y
  obtain ⟨m0, hm0⟩ : ∃ m0, m0 = rs.length := ⟨_, rfl⟩
  rw [← hm0] at HA hl hi hj ⊢
  obtain ⟨f, hf⟩ : ∃ f, f = M.acPair rs i j := ⟨_, rfl⟩
  have HF := Lib.hid (show ∀ p, f p = ⟨M.lft rs i ++ (M.lft rs j).drop p.toNat, i, 0, j, (M.lft rs i).length - p⟩ from fun p => by rw [hf]; rfl)
  rw [← hf]
  obtain ⟨li, hlieq⟩ : ∃ l, l = M.lft rs i := ⟨_, rfl⟩
  obtain ⟨lj, hljeq⟩ : ∃ l, l = M.lft rs j := ⟨_, rfl⟩
  rw [← hlieq] at k1 hli HF ⊢
  rw [← hljeq] at k2 hlj ⊢
  rw [← hljeq] at HF
  have HC := Lib.hid (fun W => spec_OverlapsOf_c li lj W (by omega) (by omega))
  have HIN := Lib.hid (fun z (h : z ∈ M.OverlapsOf li lj) => overlaps_mem h)
  have hnb := overlaps_len li lj
  generalize M.OverlapsOf li lj = ps at *
  obtain ⟨n, hn⟩ : ∃ n, n = ps.length := ⟨_, rfl⟩
  have HN := Lib.hid hn
  rw [← hn] at HC hnb
  rw [← hlieq] at hc1
  clear hA hd1 hm0 hf hlieq hljeq hn h8
  go_enter Try.func174, Try.ntmps174
  go_wp2_with fail
  refine (HC.out _).mono ?_
  rintro e w1 ⟨A1, c1, rfl, hown, hb⟩
  have D1 := Lib.hid (show w1.cell? ⟨w.heap.size, 1, none⟩ = some (.slice (some ⟨b, o, none⟩) m0 c) from cellKeep hb (by simp [go_sem]))
  have G1 := Lib.hid (cellKeep hb (k1 _ _))
  have HO1 := Lib.hid (Rd.of_own hown)
  have HS1 := Lib.hid (show w.heap.size + 2 ≤ w1.heap.size by have h := hb.size; simp at h; omega)
  have HE := Lib.hid (own_below (own_empty w (.cells #[.int .i64 k, .slice (some ⟨b, o, none⟩) m0 c] 28)) hb)
  have HOI := Lib.hid (show w1.ownsRow w.heap.size 3 1 (.slice A1 n c1) n (ints ps) from own_base hown (by simp; omega))
  obtain ⟨wb, hwb⟩ : ∃ wb : World, wb = w.alloc (.cells #[.int .i64 k, .slice (some ⟨b, o, none⟩) m0 c] 28) := ⟨_, rfl⟩
  have HB1 := Lib.hid (show Below (w.heap.size + 1) wb w1 by rw [hwb]; exact ((Below.refl _ _).alloc (by simp) _).trans (hb.mono (by simp)))
  clear hb hown k1 k2
  have HWB := Lib.hid (show wb.heap.size = w.heap.size + 1 by rw [hwb]; simp)
  have HBW := Lib.hid (show Below w.heap.size w wb by rw [hwb]; exact (Below.refl _ _).alloc (Nat.le_refl _) _)
  have DB := Lib.hid (show wb.cell? ⟨w.heap.size, 1, none⟩ = some (.slice (some ⟨b, o, none⟩) m0 c) by rw [hwb]; simp [go_sem])
  have GB := Lib.hid (show wb.cell? ⟨b, o + i * 2, none⟩ = some (.string ⟨li.toArray⟩) by rw [hwb]; exact allocKeep1 hc1 _)
  have HBL := Lib.hid (World.block_lt_of_cell? w _ hc1)
  clear hwb hc1
  have d1 := D1.out
  have g1 := G1.out
  go_wp2_with fail
  clear d1 g1
  go_loopw [7, 29] (fun s z wr => ∃ (q : Nat) (ad : Addr) (m c2 : Nat), q ≤ n ∧ z = .int .i64 q ∧ s = .slice (some ad) m c2 ∧ m = q ∧ wr.ownsRow (w.heap.size + 1) 131 5 (.slice (some ad) m c2) m (pairs_ ((ps.take q).map f)) ∧ Below (w.heap.size + 1) wb wr ∧ wr.ownsRow w.heap.size 3 1 (.slice A1 n c1) n (ints ps)) (fun _ z _ => n - (intOf z).toNat)
  case atStart => exact ⟨0, _, 0, 0, by omega, rfl, rfl, rfl, HE.out, HB1.out, HOI.out⟩
  case round =>
    obtain ⟨q, ad, m, c2, hq, rfl, rfl, rfl, hown, hb, hoi⟩ := hrel
    have HO := Lib.hid hown
    have HB := Lib.hid hb
    have HI := Lib.hid hoi
    have d1 := cellBelow hb (by omega) DB.out
    have g1 := cellBelow hb (by have := HBL.out; omega) GB.out
    by_cases hlt : m < n
    case neg =>
      obtain rfl : m = n := by omega
      have HT := Lib.hid (show (ps.take m).map f = ps.map f by rw [List.take_of_length_le (by have := HN.out; omega)])
      clear hown hb hoi
      go_wp2
      go_ret
      exact ⟨ad, c2, by rw [List.length_map, ← HN.out]; rfl, by rw [List.length_map, ← HN.out, ← HT.out]; exact own_base HO.out (by omega), HBW.out.trans (HB.out.mono (by omega))⟩
    case pos =>
      obtain ⟨a1, o1, hA1, hz, hv⟩ := (Rd.of_own hoi).intAt hlt
      subst hA1
      obtain ⟨z, hzz, hzb, hzc⟩ := HIN.out ps[m] (List.getElem_mem hz)
      have HT := Lib.hid (show (ps.take (m + 1)).map f = (ps.take m).map f ++ [f ps[m]] by rw [List.take_succ_eq_append_getElem hz, List.map_append]; rfl)
      have HFZ := Lib.hid (HF.out ps[m])
      rw [hzz] at HT HFZ hv
      generalize f (z : Int) = fz at *
      clear hown hb hoi hzz
      have hsub : (li.length : Int) - (z : Int) = ((li.length - z : Nat) : Int) := by omega
      go_wp2_with (at_builtin; (first | (refine push_law_g rfl _ _ rfl slPair rfl HO.out (us := [.string ⟨(li ++ lj.drop z).toArray⟩, .int .i64 i, .int .i64 0, .int .i64 j, .int .i64 ((li.length - z : Nat) : Int)]) rfl rfl (by simp [Value.oneCell']) HB.out HWB.out.symm (by omega) ?_) | (refine push_law_gd rfl _ _ rfl slPair rfl HO.out (us := [.string ⟨(li ++ lj.drop z).toArray⟩, .int .i64 i, .int .i64 0, .int .i64 j, .int .i64 ((li.length - z : Nat) : Int)]) rfl rfl (by simp [Value.oneCell']) HB.out HWB.out.symm (by omega) ?_)); intro A3 c3 w3 hown3 hb3 hg3)
      obtain ⟨ad3, rfl⟩ := own_some hown3 (by omega)
      go_roundw
      case rel => exact ⟨m + 1, ad3, m + 1, c3, by omega, by go_num, rfl, rfl, by rw [HT.out, pairs_add, HFZ.out, hsub]; exact hown3, hb3, (HI.out.alloc _).kept hg3 (own_apart HI.out HO.out (by decide))⟩
      case measure => simp [intOf] <;> omega


end Go.Proofs.Ytlohpphmamapeaa
