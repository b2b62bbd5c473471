/-
  The contract of impl.MirrorSystem.
  Conditions: at most 2^20 rules of at most 2^20 letters.
-/
import Derived.Test.YtlohpphmamapeaaMirS
namespace Go.Proofs.Ytlohpphmamapeaa
open Go.RowKit
set_option linter.unusedVariables false
set_option linter.unusedSimpArgs false

set_option maxRecDepth 100000 in
set_option maxHeartbeats 4000000 in
theorem impl_MirrorSystem_c (k : Int) (A : Option Addr) (c : Nat) (rs : List M.Rule) (w : World) (hA : Rd w 2 A rs.length (ruls rs)) (hl : rs.length ≤ 1048576) (hs : ∀ r ∈ rs, r.left.length ≤ 1048576 ∧ r.right.length ≤ 1048576) :
    Calls Try.prog 17 #[.agg #[.int .i64 k, .slice A rs.length c]] w (RetMir (M.mirK k rs) (M.mirQ k rs) (M.SystemOk k rs) w) := by
  have HA := Lib.hid hA
  have HS := Lib.hid hs
  have h1 := Lib.hid (fun W hA => impl_SystemOk_c k A c rs W hA hl hs)
  have HP2 := Lib.hid (fun (o1 o2 : Obj) => ((Below.refl w.heap.size w).alloc (Nat.le_refl _) o1).alloc (by simp) o2)
  obtain ⟨x, hx⟩ : ∃ x, x = M.SystemOk k rs := ⟨_, rfl⟩
  rw [← hx] at h1 ⊢
  cases x
  case false =>
    obtain ⟨e1, e2⟩ := mir_no hx.symm
    rw [e1, e2]
    clear hA hs hx e1 e2
    go_enter Try.func17, Try.ntmps17
    go_wp2_with fail
    refine (h1.out _ (HA.out.below (HP2.out _ _))).mono ?_
    rintro e w1 ⟨rfl, hb⟩
    have s1 : w.heap.size + 2 ≤ w1.heap.size := by have := hb.size; simp at this; omega
    have d11 : w1.cell? ⟨w.heap.size + 1, 0, none⟩ = some (.int .i64 0) := cellKeep hb (by simp [go_sem])
    have d21 : w1.cell? ⟨w.heap.size + 1, 1, none⟩ = some (.slice none 0 0) := cellKeep hb (by simp [go_sem])
    have f11 : w1.frozen? ⟨w.heap.size + 1, 0, none⟩ = false := ((bcell hb).2 _ _ (by simp)).trans (by simp [go_sem])
    have f21 : w1.frozen? ⟨w.heap.size + 1, 1, none⟩ = false := ((bcell hb).2 _ _ (by simp)).trans (by simp [go_sem])
    have hb1 := Lib.hid (below_alloc2 hb)
    clear hb
    go_wp2_with fail
    refine bodyPost_ret (v := .tuple #[.agg #[.int .i64 0, .slice none 0 0], .bool false]) ?_ rfl ⟨none, 0, rfl, ⟨rfl, fun h => absurd h (by simp)⟩, ?_⟩
    · simp [results, Try.results17, go_sem, cell_set_ne, cell_set_eq _ d11, cell_two' d21]
    · exact (hb1.out.setCell (by simp) _).setCell (by simp) _
  case true =>
  obtain ⟨e1, e2⟩ := mir_yes hx.symm
  rw [e1, e2]
  have HOM := Lib.hid (fun (r : M.Rule) (hr : r ∈ rs) => orientMir hx.symm hr)
  have h12 := rulesLe hx.symm
  have HTA := Lib.hid (fun (i : Nat) (h : i < rs.length) => ruls_map_add h)
  obtain ⟨n, hn⟩ : ∃ n, n = rs.length := ⟨_, rfl⟩
  have HN := Lib.hid hn
  rw [← hn] at h12 HA h1
  have HALL := Lib.hid (show rs.take n = rs by rw [hn]; exact List.take_length)
  rw [← hn]
  clear hA hs hx e1 e2 hn hl
  go_enter Try.func17, Try.ntmps17
  go_wp2_with fail
  refine (h1.out _ (HA.out.below (HP2.out _ _))).mono ?_
  rintro e w1 ⟨rfl, hb⟩
  have s1 : w.heap.size + 2 ≤ w1.heap.size := by have := hb.size; simp at this; omega
  have c0 : w1.cell? ⟨w.heap.size, 0, none⟩ = some (.int .i64 k) := cellKeep hb (by simp [go_sem])
  have c1 : w1.cell? ⟨w.heap.size, 1, none⟩ = some (.slice A n c) := cellKeep hb (by simp [go_sem])
  have d11 : w1.cell? ⟨w.heap.size + 1, 0, none⟩ = some (.int .i64 0) := cellKeep hb (by simp [go_sem])
  have d21 : w1.cell? ⟨w.heap.size + 1, 1, none⟩ = some (.slice none 0 0) := cellKeep hb (by simp [go_sem])
  have f11 : w1.frozen? ⟨w.heap.size + 1, 0, none⟩ = false := ((bcell hb).2 _ _ (by simp)).trans (by simp [go_sem])
  have f21 : w1.frozen? ⟨w.heap.size + 1, 1, none⟩ = false := ((bcell hb).2 _ _ (by simp)).trans (by simp [go_sem])
  have hb1 := Lib.hid (below_alloc2 hb)
  clear hb
  have HQ := Lib.hid (show MirQ w (w1.alloc (.cells #[.int .i64 k, .slice none 0 0] 28)) (w1.heap.size + 1) w.heap.size w1.heap.size k (.slice A n c) (.slice none 0 0) 0 (ruls ((rs.take 0).map M.mirRule)) from
    ⟨⟨allocKeep1 c0 _, allocKeep1 c1 _, allocKeep1 d11 _, allocKeep1 d21 _, ((bcell ((Below.refl w1.heap.size w1).alloc (Nat.le_refl _) _)).2 _ _ (by omega)).trans f11, ((bcell ((Below.refl w1.heap.size w1).alloc (Nat.le_refl _) _)).2 _ _ (by omega)).trans f21, by simp [go_sem], by simp [go_sem], by simp [go_sem]⟩, World.ownsRow_nil _ _ _ _, by simp, ⟨by omega, by omega, rfl⟩, hb1.out.alloc hb1.out.size _⟩)
  have k0 := fun o => allocKeep1 c1 o
  go_wp2_with fail
  clear k0 c0 c1 d11 d21 f11 f21
  obtain ⟨g, hg⟩ : ∃ g, g = w1.heap.size := ⟨_, rfl⟩
  rw [← hg] at HQ ⊢
  have HG := Lib.hid hg
  clear hg
  obtain ⟨h, hh⟩ : ∃ h, h = w.heap.size := ⟨_, rfl⟩
  have HH := Lib.hid hh
  rw [← hh] at HQ s1 ⊢
  obtain ⟨ws, hws⟩ : ∃ ws : World, ws = w1.alloc (.cells #[.int .i64 k, .slice none 0 0] 28) := ⟨_, rfl⟩
  rw [← hws] at HQ ⊢
  clear hws hh
  go_loopw [17] (fun z wr => ∃ (i : Nat) (A' : Option Addr) (c' : Nat), i ≤ n ∧ z = .int .i64 i ∧ MirQ w wr (g + 1) h g k (.slice A n c) (.slice A' i c') i (ruls ((rs.take i).map M.mirRule))) (fun z _ => n - (intOf z).toNat)
  case atStart => exact ⟨0, none, 0, by omega, rfl, HQ.out⟩
  case round =>
    clear HQ
    obtain ⟨i, A', c', hi, rfl, hq⟩ := hrel
    have HQ := Lib.hid hq
    clear hq
    by_cases hlt : i < n
    case neg =>
      obtain rfl : i = n := by omega
      obtain ⟨⟨c0, c1, r0, r1, f0, f1, o0, o1, fo⟩, ho, hB, ⟨hh1, hh2, hh3⟩, hbel⟩ := HQ.out
      go_wp2_with fail
      try simp only [Exit.inBlock, Exit.then]
      refine bodyPost_ret (v := .tuple #[.agg #[.int .i64 k, .slice A' i c'], .bool true]) ?_ ?_ ?_
      · simp [results, Try.results17, go_sem, cell_set_ne, cell_set_eq _ r0, cell_two' r1]
      · rfl
      · exact ⟨A', c', by rw [List.length_map, ← HN.out], by rw [List.length_map, ← HN.out]; rw [HALL.out] at ho; exact (Own.of_row (ownsRow_setCell_below (ownsRow_setCell_below ho (by simp; omega) _) (by simp; omega) _)).mono (by omega), by rw [hh3]; exact (hbel.setCell (by simp) _).setCell (by simp) _⟩
    case pos =>
    obtain ⟨b, o, hA0, hz, hc1, hc2⟩ := (HA.out.below (by have h1 := HQ.out.bel; rw [HH.out] at h1; exact h1)).ruleAt (k := i) hlt
    subst hA0
    have hsz := HS.out rs[i] (List.getElem_mem hz)
    have HO := Lib.hid (HOM.out rs[i] (List.getElem_mem hz))
    have HT := Lib.hid (HTA.out i (by rw [← HN.out]; exact hlt))
    generalize hrr : rs[i] = r at *
    obtain ⟨rl, rr⟩ := r
    simp only at hc1 hc2 hsz HO
    clear hrr
    generalize hmm : M.mirRule ⟨rl, rr⟩ = mr at *
    obtain ⟨ml, mr'⟩ := mr
    have HM := Lib.hid (fun l (h : l.length ≤ 1048576) W => impl_MirrorWord_c l W h)
    have HOR := Lib.hid (fun W => oriented_c rl.reverse rr.reverse W (by simpa using hsz.1) (by simpa using hsz.2))
    rw [show M.oriented ⟨rl.reverse, rr.reverse⟩ = ⟨ml, mr'⟩ from hmm] at HOR
    simp only at HOR HT
    have hsl := hsz.1
    have hsr := hsz.2
    clear hmm hsz HO
    go_wp2_with fail
    obtain ⟨wz, hwz⟩ : ∃ wz : World, wz = wr.alloc (.cells #[.string ⟨rl.toArray⟩, .string ⟨rr.toArray⟩] 84) := ⟨_, rfl⟩
    obtain ⟨gb, hgb⟩ : ∃ gb, gb = wr.heap.size := ⟨_, rfl⟩
    rw [← hwz, ← hgb]
    have z1 : wz.cell? ⟨gb, 0, none⟩ = some (.string ⟨rl.toArray⟩) := by rw [hwz, hgb]; simp [go_sem]
    have z2 : wz.cell? ⟨gb, 1, none⟩ = some (.string ⟨rr.toArray⟩) := by rw [hwz, hgb]; simp [go_sem]
    have hfar : some gb ≠ (Value.slice A' i c').ownBlock := by rw [hgb]; exact HQ.out.far
    have hggb : g < gb := by rw [hgb]; obtain ⟨_, _, h1, h2, _⟩ := HQ.out; omega
    have hq : MirQ w wz (g + 1) h g k (.slice (some ⟨b, o, none⟩) n c) (.slice A' i c') i (ruls ((rs.take i).map M.mirRule)) := by rw [hwz]; exact HQ.out.below ((Below.refl _ _).alloc (Nat.le_refl _) _)
    have qd : MirW w wz.drew (g + 1) h g k (.slice (some ⟨b, o, none⟩) n c) (.slice A' i c') i (ruls ((rs.take i).map M.mirRule)) gb rl rr := ⟨hq.below (Below.refl _ _).drew, z1, z2⟩
    have oz := hq.o1
    clear hwz hgb hc1 hc2 HQ hq
    go_region_law (first | (refine step_push_h rfl _ _ rfl slRule rfl (q4.1.below ((Below.refl _ _).alloc (Nat.le_refl _) _)).own (us := [.string ⟨ml.toArray⟩, .string ⟨mr'.toArray⟩]) rfl rfl (by simp [Value.oneCell']) (heap_alloc_new _ _) (q4.1.below ((Below.refl _ _).alloc (Nat.le_refl _) _)).base (by omega) ?_; intro A7 c7 w7 hown7 hg7; have o7 := (q4.1.below ((Below.refl _ _).alloc (Nat.le_refl _) _)).o1g hg7; have f7 := (q4.1.below ((Below.refl _ _).alloc (Nat.le_refl _) _)).fog hg7) | (go_simp; go_at_call 65; refine (HM.out _ (by first | exact hsl | exact hsr) _).mono ?_; rintro e w3 ⟨rfl, hb3⟩; have q3 := MirW.below' hb3 (by assumption); have o3 := q3.1.o1; have l3 := q3.2.1; have r3 := q3.2.2) | (go_simp; go_at_call 64; refine (HOR.out _).mono ?_; rintro e w3 ⟨rfl, hb3⟩; have q4 := MirW.below' hb3 (by assumption); have o3 := q4.1.o1; have o4 := fun ob => allocKeep1 o3 ob))
    all_goals
      have HQ7 := Lib.hid ((q4.1.below ((Below.refl _ _).alloc (Nat.le_refl _) _)).push hg7 hown7)
      clear o7 f7 hown7 hg7 o3 o4 hb3
      go_wp2_with fail
      go_roundw
      case rel => exact ⟨i + 1, A7, c7, by omega, by go_num, by rw [HT.out]; exact HQ7.out⟩
      case measure => simp [intOf] <;> omega


end Go.Proofs.Ytlohpphmamapeaa
