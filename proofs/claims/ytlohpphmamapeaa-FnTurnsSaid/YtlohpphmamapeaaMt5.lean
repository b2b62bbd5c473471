/-
  Contracts and plain laws for the functions of this seat (texts joined: Insert TurnS StartM WorkM MaxLen).
  Conditions: each text says its own.
-/

import Derived.Test.YtlohpphmamapeaaMt2
import Derived.Test.YtlohpphmamapeaaMt3
import Derived.Test.YtlohpphmamapeaaMt4
/-
  l06Insert of the reference: the contract.
  Conditions: at most twelve rules; what l04Trace makes of the right sides is given as T.
-/
namespace Go.Proofs.Ytlohpphmamapeaa
open Go.RowKit
set_option linter.unusedVariables false
set_option linter.unusedSimpArgs false
/-- What stands in the second loop: the new system (its block: the first of wl), its rules so far. -/
def InsN (wl wr : World) (k : Int) (e : TypeId) (N : Option Addr) (j c' : Nat) (xs : List M.Rule) : Prop :=
  Below wl.heap.size wl wr ∧ wr.cell? ⟨wl.heap.size, 0, none⟩ = some (.int .i64 k) ∧ wr.cell? ⟨wl.heap.size, 1, none⟩ = some (.slice N j c') ∧ wr.frozen? ⟨wl.heap.size, 1, none⟩ = false ∧ OwnS wr (wl.heap.size + 1) e 2 N j c' (ruls xs) ∧ wl.heap.size + 1 ≤ wr.heap.size
section
variable {wl wr w' : World} {k : Int} {e : TypeId} {N N' : Option Addr} {j c' c7 : Nat} {xs : List M.Rule} {r : M.Rule}
theorem InsN.below (q : InsN wl wr k e N j c' xs) (hb : Below wr.heap.size wr w') : InsN wl w' k e N j c' xs := by
  obtain ⟨hB, d0, d1, f1, o, hs⟩ := q
  have := hb.size
  exact ⟨hB.trans (hb.mono (by omega)), cellKeep hb d0, cellKeep hb d1, (hb.frozen (p := ⟨wl.heap.size, 1, none⟩) (by simp only; omega)).trans f1, o.below hb, by omega⟩
theorem InsN.push (q : InsN wl wr k e N j c' xs) (hg : wr.grownBy w' (blkS N c')) (ho : OwnS w' (wl.heap.size + 1) e 2 N' (j + 1) c7 (ruls xs ++ ruleCells r)) :
    w'.cell? ⟨wl.heap.size, 1, none⟩ = some (.slice N j c') ∧ w'.frozen? ⟨wl.heap.size, 1, none⟩ = false ∧ InsN wl (w'.setCell ⟨wl.heap.size, 1, none⟩ (.slice N' (j + 1) c7)) k e N' (j + 1) c7 (xs ++ [r]) := by
  obtain ⟨hB, d0, d1, f1, o, hs⟩ := q
  have hb : Below (wl.heap.size + 1) wr w' := (Below.refl _ _).grown hg hs (fun _ hk => (o.lt _ hk).1)
  have hz := hg.size
  have d1' := cellBelow hb (by omega) d1
  have f1' := (hb.frozen (p := ⟨wl.heap.size, 1, none⟩) (by simp only; omega)).trans f1
  exact ⟨d1', f1', (hB.trans (hb.mono (by omega))).setCell (by simp) _, (cell_set_ne _ (Or.inr (by decide))).trans (cellBelow hb (by omega) d0), cell_set_eq _ d1', by simpa using f1', by rw [ruls_snoc]; exact ho.setLow (by omega), by simp; omega⟩
end
/-- What l06Insert returns: the new system, whose rules are its own, and the rules that went. -/
def RetIns (e : TypeId) (k : Int) (ns gs : List M.Rule) (w : World) (x : Ending) (w' : World) : Prop :=
  ∃ N cN R cR, x = .returned (.tuple #[.agg #[.int .i64 k, .slice N ns.length cN], .slice R gs.length cR]) ∧ OwnS w' w.heap.size e 2 N ns.length cN (ruls ns) ∧ OwnS w' w.heap.size e 2 R gs.length cR (ruls gs) ∧ Below w.heap.size w w'
def M.nextBy (T : List UInt8 → List UInt8) (ks : List M.Rule) : List M.Rule := ks.map fun x => ⟨x.left, T x.right⟩
theorem nextBy_snoc {T : List UInt8 → List UInt8} {ks : List M.Rule} {i : Nat} (hi : i < ks.length) : M.nextBy T (ks.take (i + 1)) = M.nextBy T (ks.take i) ++ [⟨ks[i].left, T ks[i].right⟩] := by
  unfold M.nextBy
  rw [List.take_succ_eq_append_getElem hi, List.map_append]
  rfl
theorem OwnS.stored2 {wr : World} {base size n c g : Nat} {A : Option Addr} {e e' : TypeId} {us : List Value} {cur : Array Value} (ho : OwnS wr base e size A n c us) (hG : wr.heap[g]? = some (.cells cur e' (0, 0))) (hne : e ≠ e') (u0 u1 : Value) : OwnS ((wr.setCell ⟨g, 0, none⟩ u0).setCell ⟨g, 1, none⟩ u1) base e size A n c us := by
  have gr : ∀ (W : World) (o : Nat) (u : Value), W.grownBy (W.setCell ⟨g, o, none⟩ u) (some g) := fun W o u => ⟨rfl, rfl, rfl, by simp, fun k _ hk => heap_setCell_other W ⟨g, o, none⟩ k u (fun e => hk (by simp [e]))⟩
  have hne' : ∀ x, blkS A c = some x → some x ≠ some g := fun x hx e => by
    obtain ⟨cu, h1⟩ := ho.type hx
    injection e with e
    subst e
    rw [hG] at h1
    simp at h1
    exact hne h1.2.symm
  exact (ho.grown (gr _ _ _) hne').grown (gr _ _ _) hne'
theorem nextBy_len (T : List UInt8 → List UInt8) (ks : List M.Rule) : (M.nextBy T ks).length = ks.length := by simp [M.nextBy]
set_option maxRecDepth 100000 in
set_option maxHeartbeats 8000000 in
theorem l06Insert_t (T : List UInt8 → List UInt8) (k : Int) (A : Option Addr) (c : Nat) (rs : List M.Rule) (rl rr : List UInt8) (w : World) (hA : Rd w 2 A rs.length (ruls rs)) (hl : rs.length ≤ 12) (hs : ∀ r ∈ rs, r.left.length ≤ 1048576 ∧ r.right.length ≤ 1048576) (hrl : rl.length ≤ 1048576)
    (hT : ∀ W B d, Rd W 2 B (M.withRule rs ⟨rl, rr⟩).length (ruls (M.withRule rs ⟨rl, rr⟩)) → ∀ x ∈ rs, Calls Try.prog 96 #[.agg #[.int .i64 k, .slice B (M.withRule rs ⟨rl, rr⟩).length d], .string ⟨x.right.toArray⟩] W (RetTrace (T x.right) W)) :
    Calls Try.prog 99 #[.agg #[.int .i64 k, .slice A rs.length c], .agg #[.string ⟨rl.toArray⟩, .string ⟨rr.toArray⟩]] w (RetIns 84 k (M.nextBy T (M.kept rl rs) ++ [⟨rl, rr⟩]) (M.gone rl rs) w) := by
  have HA := Lib.hid (fun W (hb : Below w.heap.size w W) => hA.below hb)
  have HS := Lib.hid hs
  have HKS := Lib.hid (fun (i : Nat) (hi : i < rs.length) h => kept_snoc (l := rl) hi h)
  have HGS := Lib.hid (fun (i : Nat) (hi : i < rs.length) h => gone_snoc (l := rl) hi h)
  have HPL := Lib.hid (fun l W (hl : l.length ≤ 1048576) => spec_PlacesOf_c l rl W hl hrl)
  have HT0 := Lib.hid (show ∀ W B d (j : Nat) (hj : j < (M.kept rl rs).length), Rd W 2 B ((M.kept rl rs).length + 1) (ruls (M.kept rl rs ++ [⟨rl, rr⟩])) → Calls Try.prog 96 #[.agg #[.int .i64 k, .slice B ((M.kept rl rs).length + 1 : Nat) d], .string ⟨(M.kept rl rs)[j].right.toArray⟩] W (RetTrace (T (M.kept rl rs)[j].right) W) from fun W B d j hj hB => by
    have hlen : (M.withRule rs ⟨rl, rr⟩).length = (M.kept rl rs).length + 1 := by simp [M.withRule]
    have h := hT W B d
    rw [hlen] at h
    exact h hB _ (kept_mem (List.getElem_mem hj)))
  clear hT
  obtain ⟨KS, hKS⟩ : ∃ KS, KS = M.kept rl rs := ⟨_, rfl⟩
  obtain ⟨GS, hGS⟩ : ∃ GS, GS = M.gone rl rs := ⟨_, rfl⟩
  rw [← hKS] at HT0
  rw [← hKS, ← hGS]
  have HKS0 := Lib.hid hKS
  have HGS0 := Lib.hid hGS
  clear hKS hGS
  obtain ⟨n, hn⟩ : ∃ n, n = rs.length := ⟨_, rfl⟩
  have HN := Lib.hid hn
  have hnb : n ≤ 12 := by omega
  rw [← hn] at HA ⊢
  clear hA hs hn hl hrl
  go_enter Try.func99, Try.ntmps99
  go_wp2_with fail
  obtain ⟨w0, hw0⟩ : ∃ w0 : World, w0 = ((((w.alloc (.cells #[.int .i64 k, .slice A n c] 28)).alloc (.cells #[.string ⟨rl.toArray⟩, .string ⟨rr.toArray⟩] 84)).alloc (.cells #[.int .i64 0, .slice none 0 0] 28)).alloc (.cells #[] 84)).alloc (.cells #[.int .i64 k, .slice none 0 0] 28) := ⟨_, rfl⟩
  have HQ := Lib.hid (show InsQ w w0 k A n c rl rr 84 (some ⟨w.heap.size + 3, 0, none⟩) 0 0 [] none 0 0 [] from by
    rw [hw0]
    refine ⟨⟨⟨by simp [go_sem], by simp [go_sem]⟩, ⟨by simp [go_sem], by simp [go_sem]⟩, ⟨by simp [go_sem], by simp [go_sem], by simp [go_sem], by simp [go_sem]⟩, ⟨by simp [go_sem], by simp [go_sem]⟩, by simp⟩, by simp [go_sem], ⟨by simp [ruls], Nat.le_refl _, by simp [maxLen], fun h => by omega⟩, ⟨by simp [ruls], Nat.le_refl _, by simp [maxLen], fun h => by omega⟩, fun g h => by simp [blkS] at h, below_al (below_al (below_al (below_al (below_al (Below.refl _ _) _) _) _) _) _⟩)
  rw [← hw0]
  clear hw0
  go_loopw [21, 6] (fun z s wr => ∃ (i : Nat) (R : Option Addr) (cr : Nat) (L : Option Addr) (cl : Nat), i ≤ n ∧ z = .int .i64 i ∧ s = .slice R (M.gone rl (rs.take i)).length cr ∧ InsQ w wr k A n c rl rr 84 R (M.gone rl (rs.take i)).length cr (M.gone rl (rs.take i)) L (M.kept rl (rs.take i)).length cl (M.kept rl (rs.take i))) (fun z _ _ => n - (intOf z).toNat)
  case atStart => exact ⟨0, _, 0, none, 0, by omega, rfl, rfl, HQ.out⟩
  case round =>
    clear HQ
    obtain ⟨i, R, cr, L, cl, hi, rfl, rfl, hq⟩ := hrel
    have HQ := Lib.hid hq
    clear hq
    have HGL := Lib.hid (show (M.gone rl (rs.take i)).length ≤ 12 ∧ (M.kept rl (rs.take i)).length ≤ 12 from by
      have h1 := gone_len rl (rs.take i)
      have h2 := kept_len rl (rs.take i)
      rw [List.length_take] at h1 h2
      omega)
    by_cases hlt : i < n
    case neg =>
      obtain rfl : i = n := by omega
      have HT := Lib.hid (show rs.take i = rs by rw [HN.out, List.take_length])
      rw [HT.out, ← HKS0.out, ← HGS0.out] at HQ HGL
      rw [HT.out, ← HGS0.out]
      go_wp2_with fail
      clear HKS HGS HPL HS HKS0 HGS0 HT
      have hok := ruls_one' KS
      obtain ⟨nk, hnk⟩ : ∃ nk, nk = KS.length := ⟨_, rfl⟩
      rw [← hnk] at HQ HGL
      have HNK := Lib.hid hnk
      clear hnk
      have hnk12 : nk ≤ 12 := HGL.out.2
      have KD : Below wr.heap.size wr wr.drew := (Below.refl _ _).drew
      have hsz5 := HQ.out.1.2.2.2.2
      have TD : wr.drew.cell? ⟨w.heap.size, 0, none⟩ = some (.int .i64 k) ∧ wr.drew.cell? ⟨w.heap.size + 4, 1, none⟩ = some (.slice L nk cl) ∧ wr.drew.cell? ⟨w.heap.size + 1, 0, none⟩ = some (.string ⟨rl.toArray⟩) ∧ wr.drew.cell? ⟨w.heap.size + 1, 1, none⟩ = some (.string ⟨rr.toArray⟩) := ⟨cellKeep KD HQ.out.1.1.1, cellKeep KD HQ.out.2.1, cellKeep KD HQ.out.1.2.1.1, cellKeep KD HQ.out.1.2.1.2⟩
      have RL0 : Rd wr.drew 2 L nk (ruls KS) := (HQ.out.2.2.2.1.below KD).own.rd
      have HX10 := Lib.hid HQ.out
      have RR0 := (HQ.out.2.2.1.below KD).own.rd
      rename_i K0 hK0
      have cont : ∀ (W : World) (g : Nat) (N : Option Addr) (cN : Nat) (v0 v1 v5 v8 v9 v11 v12 v13 v14 v15 v16 v17 v18 v19 v20 v21 v22 v23 v24 v25 v26 v27 v28 v29 v30 v31 v32 v33 v34 v35 v36 v37 v38 v39 v40 v41 v42 v43 v44 v45 v46 v47 v48 v49 v50 v51 v52 : Value), Below wr.heap.size wr W → W.cell? ⟨g, 0, none⟩ = some (.int .i64 k) → W.cell? ⟨g, 1, none⟩ = some (.slice N (nk + 1) cN) → Rd W 2 N (nk + 1) (ruls (KS ++ [⟨rl, rr⟩])) →
          K0 ⟨#[v0, v1, .pointer (some ⟨w.heap.size, 0, none⟩), .pointer (some ⟨w.heap.size + 1, 0, none⟩), .pointer (some ⟨w.heap.size + 1 + 1, 0, none⟩), v5, .slice R GS.length cr, .pointer (some ⟨w.heap.size + 1 + 1 + 1 + 1, 0, none⟩), v8, v9, .pointer (some ⟨g, 0, none⟩), v11, v12, v13, v14, v15, v16, v17, v18, v19, v20, v21, v22, v23, v24, v25, v26, v27, v28, v29, v30, v31, v32, v33, v34, v35, v36, v37, v38, v39, v40, v41, v42, v43, v44, v45, v46, v47, v48, v49, v50, v51, v52, undef, undef, undef, undef, undef, undef, undef, undef, undef, undef, undef, undef, undef, undef, undef, undef, undef, undef, undef, undef, undef, undef, undef, undef, undef, undef, undef, undef, undef, undef, undef, undef, undef], []⟩ W := by
        intro W g N cN v0 v1 v5 v8 v9 v11 v12 v13 v14 v15 v16 v17 v18 v19 v20 v21 v22 v23 v24 v25 v26 v27 v28 v29 v30 v31 v32 v33 v34 v35 v36 v37 v38 v39 v40 v41 v42 v43 v44 v45 v46 v47 v48 v49 v50 v51 v52 hBW hc0 hc1 hRd
        refine hK0 _ _ ?_
        have q := HX10.out.below hBW
        have HF := Lib.hid q.1
        have HBW := Lib.hid q.2.2.2.2.2
        have l7 := q.2.1
        have RR := Lib.hid q.2.2.1
        have RL := Lib.hid q.2.2.2.1.own.rd
        have HRD := Lib.hid hRd
        have HC0 := Lib.hid hc0
        have HC1 := Lib.hid hc1
        have c00 := HF.out.1.1
        have k7 := fun o => allocKeep1 l7 o
        clear q hc0 hc1 hRd hBW HX10 HQ KD TD RL0 RR0 hK0
        go_wp2_with fail
        clear l7 k7 c00
        have HQN0 := Lib.hid (show InsN W (W.alloc (.cells #[.int .i64 k, .slice none 0 0] 28)) k 84 none 0 0 (M.nextBy T (KS.take 0)) from
          ⟨ref_al _ _, by simp [go_sem], by simp [go_sem], by simp [go_sem], ⟨by simp [ruls, M.nextBy], Nat.le_refl _, by simp [maxLen], fun h => by omega⟩, by simp⟩)
        go_loopw [59] (fun z wn => ∃ (j : Nat) (N' : Option Addr) (c' : Nat), j ≤ nk ∧ z = .int .i64 j ∧ InsN W wn k 84 N' j c' (M.nextBy T (KS.take j))) (fun z _ => nk - (intOf z).toNat)
        case atStart => exact ⟨0, none, 0, by omega, rfl, HQN0.out⟩
        case round =>
          clear HQN0
          obtain ⟨j, N', c', hj, rfl, hqn⟩ := hrel
          have HQN := Lib.hid hqn
          clear hqn
          have HFN := Lib.hid (HF.out.keep (HQN.out.1.mono HF.out.2.2.2.2) HQN.out.1.size)
          by_cases hlt2 : j < nk
          case neg =>
            obtain rfl : j = nk := by omega
            have HT2 := Lib.hid (show M.nextBy T (KS.take j) = M.nextBy T KS by rw [HNK.out, List.take_length])
            rw [HT2.out] at HQN
            have l11 := HQN.out.2.2.1
            have b0 := HFN.out.2.1.1
            have b1 := HFN.out.2.1.2
            have f11 := HQN.out.2.2.2.1
            clear HT0 HRD HC0 HC1 RL HGL HT2
            have HQA := Lib.hid (HQN.out.below (ref_al wr (.cells #[.string ⟨rl.toArray⟩, .string ⟨rr.toArray⟩] 84)))
            go_wp2_with (at_builtin; (refine push_off_many rfl _ _ rfl slRule rfl HQA.out.2.2.2.2.1 rfl (rd_lit _ ⟨rl, rr⟩ _) (ruleCells_one ⟨rl, rr⟩) (by have := HQA.out.2.2.2.2.2; simpa using this) (by omega) ?_; intro A7 c7 w7 hown7 hg7 hat7; obtain ⟨l7, f7, q7⟩ := HQA.out.push hg7 (r := ⟨rl, rr⟩) hown7); have e0 := q7.2.1; have e1 := q7.2.2.1; obtain ⟨_, _, ⟨d0, d1, f0, f1⟩, _, _⟩ := HF.out.keep (q7.1.mono HF.out.2.2.2.2) q7.1.size)
            have HQ7 := Lib.hid q7
            have hs5 := HF.out.2.2.2.2
            have dd0 : (w7.setCell ⟨W.heap.size, 1, none⟩ (.slice A7 (j + 1) c7)).cell? ⟨w.heap.size + 1 + 1, 0, none⟩ = some (.int .i64 0) := d0
            have dd1 : (w7.setCell ⟨W.heap.size, 1, none⟩ (.slice A7 (j + 1) c7)).cell? ⟨w.heap.size + 1 + 1, 1, none⟩ = some (.slice none 0 0) := d1
            clear hown7 hg7 hat7 q7
            try go_wp2_with fail
            have hlen : (M.nextBy T KS ++ [(⟨rl, rr⟩ : M.Rule)]).length = j + 1 := by rw [List.length_append, nextBy_len, ← HNK.out]; rfl
            refine bodyPost_ret (v := .tuple #[.agg #[.int .i64 k, .slice A7 (j + 1) c7], .slice R GS.length cr]) ?_ rfl ⟨A7, c7, R, cr, by rw [hlen], ?_, ?_, ?_⟩
            · have r0 := (cell_set_ne (b := w.heap.size + 1 + 1) (o := 1) (.slice A7 (j + 1) c7) (Or.inr (by decide))).trans (cell_set_eq (.int .i64 k) dd0)
              have r1 := cell_two' dd1 (.int .i64 k) (.slice A7 (j + 1) c7)
              simp [results, Try.results99, go_sem, r0, r1]
            · rw [hlen]
              exact ((HQ7.out.2.2.2.2.1.setLow (by omega)).setLow (by omega)).mono (by omega)
            · exact (((RR.out.below HQ7.out.1).setLow (by omega)).setLow (by omega)).mono (by omega)
            · exact ((HBW.out.trans (HQ7.out.1.mono (by omega))).setCell (by simp <;> omega) _).setCell (by simp <;> omega) _
          case pos =>
            have hz0 : j < KS.length := by have := HNK.out; omega
            have HNX := Lib.hid (nextBy_snoc (T := T) hz0)
            have HTJ := Lib.hid (fun W' d hW' => HT0.out W' N d j hz0 hW')
            rw [← HNK.out] at HTJ
            obtain ⟨b, o, rfl, hz, hc1, hc2⟩ := (RL.out.below HQN.out.1).ruleAt (k := j) hlt2
            generalize KS[j] = x at *
            obtain ⟨xl, xr⟩ := x
            simp only at hc1 hc2 HTJ HNX
            generalize hts : M.nextBy T (KS.take j) = ts at *
            generalize hts1 : M.nextBy T (KS.take (j + 1)) = ts1 at *
            have HT1 := Lib.hid hts1
            clear hts hts1
            obtain ⟨y, hy⟩ : ∃ y, y = T xr := ⟨_, rfl⟩
            rw [← hy] at HTJ HNX
            clear hy
            have g0 := fun o => allocKeep1 (cellKeep HQN.out.1 HC0.out) o
            have g1 := fun o => allocKeep1 (cellKeep HQN.out.1 HC1.out) o
            go_wp2_with fail
            refine (HTJ.out _ _ ((HRD.out.below HQN.out.1).below (ref_al _ _))).mono ?_
            rintro e w2 ⟨v, rfl, hb2⟩
            have HB2 := Lib.hid ((((ref_al _ (.cells #[.string ⟨xl.toArray⟩, .string ⟨xr.toArray⟩] 84)).trans (hb2.mono (by simp))).setCell (p := ⟨wr.heap.size, 1, none⟩) (Nat.le_refl _) (.string ⟨y.toArray⟩)))
            have e0 : w2.cell? ⟨wr.heap.size, 0, none⟩ = some (.string ⟨xl.toArray⟩) := cellKeep hb2 (by simp [go_sem])
            have e1 : w2.cell? ⟨wr.heap.size, 1, none⟩ = some (.string ⟨xr.toArray⟩) := cellKeep hb2 (by simp [go_sem])
            have fe1 : w2.frozen? ⟨wr.heap.size, 1, none⟩ = false := ((bcell hb2).2 _ _ (by simp)).trans (by simp [go_sem])
            have a0 : (w2.setCell ⟨wr.heap.size, 1, none⟩ (.string ⟨y.toArray⟩)).cell? ⟨wr.heap.size, 0, none⟩ = some (.string ⟨xl.toArray⟩) := (cell_set_ne _ (Or.inr (by decide))).trans e0
            have a1 : (w2.setCell ⟨wr.heap.size, 1, none⟩ (.string ⟨y.toArray⟩)).cell? ⟨wr.heap.size, 1, none⟩ = some (.string ⟨y.toArray⟩) := cell_set_eq _ e1
            have HQ3 := Lib.hid (HQN.out.below HB2.out)
            have l11 := HQ3.out.2.2.1
            have hlit := rd_lit (w2.setCell ⟨wr.heap.size, 1, none⟩ (.string ⟨y.toArray⟩)) ⟨xl, y⟩ 84
            rw [show (w2.setCell ⟨wr.heap.size, 1, none⟩ (.string ⟨y.toArray⟩)).heap.size = w2.heap.size by simp] at hlit
            have HLIT := Lib.hid hlit
            clear hb2 g0 g1 hc1 hc2 hlit
            go_wp2_with (at_builtin; (refine push_off_many rfl _ _ rfl slRule rfl (HQ3.out.below (ref_al _ _)).2.2.2.2.1 rfl HLIT.out (ruleCells_one ⟨xl, y⟩) (by have := (HQ3.out.below (ref_al _ (.cells #[.string ⟨xl.toArray⟩, .string ⟨y.toArray⟩] 84))).2.2.2.2.2; simpa using this) (by omega) ?_; intro A7 c7 w7 hown7 hg7 hat7; obtain ⟨l7, f7, q7⟩ := (HQ3.out.below (ref_al _ _)).push hg7 (r := ⟨xl, y⟩) hown7))
            have HQ7 := Lib.hid q7
            clear hown7 hg7 hat7 q7
            try go_wp2_with fail
            go_roundw
            case rel => exact ⟨j + 1, A7, c7, by omega, by go_num, by rw [HT1.out, HNX.out]; exact HQ7.out⟩
            case measure => simp [intOf] <;> omega
      clear HX10 HQ RR0 HT0 hK0
      refine wp_region_U (fun w' => w'.cell? ⟨w.heap.size, 0, none⟩ = some (.int .i64 k) ∧ w'.cell? ⟨w.heap.size + 4, 1, none⟩ = some (.slice L nk cl) ∧ w'.cell? ⟨w.heap.size + 1, 0, none⟩ = some (.string ⟨rl.toArray⟩) ∧ w'.cell? ⟨w.heap.size + 1, 1, none⟩ = some (.string ⟨rr.toArray⟩)) 11 (by kernel_rfl) (TD) (fun hHeld => ?_)
      refine takeU (i := 0) (v := ?v1) rfl (by kernel_rfl) (fun _ _ _ h => h) (Or.inl ⟨by rfl, ?hy1⟩) (by assumption) ?rest1
      case hy1 => (intro w hSw; (try dsimp only at hSw); (first | (go_simp; done) | (go_simp; with_reducible rfl)))
      case rest1 =>
        try simp only [Act.put, List.setIfInBounds_toArray, List.set_cons_zero, List.set_cons_succ]
        refine takeU (i := 1) (v := ?v2) rfl (by kernel_rfl) (fun _ _ _ h => h) (Or.inl ⟨by rfl, ?hy2⟩) (by assumption) ?rest2
        case hy2 => (intro w hSw; (try dsimp only at hSw); (first | (go_simp; done) | (go_simp; with_reducible rfl)))
        case rest2 =>
          try simp only [Act.put, List.setIfInBounds_toArray, List.set_cons_zero, List.set_cons_succ]
          refine takeU (i := 3) (v := ?v3) rfl (by kernel_rfl) (fun _ _ _ h => h) (Or.inl ⟨by rfl, ?hy3⟩) (by assumption) ?rest3
          case hy3 => (intro w hSw; (try dsimp only at hSw); (first | (go_simp; done) | (go_simp; with_reducible rfl)))
          case rest3 =>
            try simp only [Act.put, List.setIfInBounds_toArray, List.set_cons_zero, List.set_cons_succ]
            refine takeU (i := 4) (v := ?v4) rfl (by kernel_rfl) (fun _ _ _ h => h) (Or.inl ⟨by rfl, ?hy4⟩) (by assumption) ?rest4
            case hy4 => (intro w hSw; (try dsimp only at hSw); (first | (go_simp; done) | (go_simp; with_reducible rfl)))
            case rest4 =>
              try simp only [Act.put, List.setIfInBounds_toArray, List.set_cons_zero, List.set_cons_succ]
              refine takeU (i := 6) (v := ?v5) rfl (by kernel_rfl) (fun _ _ _ h => h) (Or.inl ⟨by rfl, ?hy5⟩) (by assumption) ?rest5
              case hy5 => (intro w hSw; (try dsimp only at hSw); (first | (go_simp; done) | (go_simp; with_reducible rfl)))
              case rest5 =>
                try simp only [Act.put, List.setIfInBounds_toArray, List.set_cons_zero, List.set_cons_succ]
                refine wpAnyU_ready (rs := [2, 7, 10]) (by kernel_rfl) (by simp) ?_
                refine consU rfl (fun K hK => ?_) ?_
                · go_simp
                  have K1 := KD.trans ((ref_al _ (.cells #[] 84)).mono KD.size)
                  have T1 : _ ∧ _ ∧ _ ∧ _ := ⟨cellKeep (ref_al _ (.cells #[] 84)) TD.1, cellKeep (ref_al _ (.cells #[] 84)) TD.2.1, cellKeep (ref_al _ (.cells #[] 84)) TD.2.2.1, cellKeep (ref_al _ (.cells #[] 84)) TD.2.2.2⟩
                  have RL1 := RL0.below (ref_al _ (.cells #[] 84))
                  refine hK.out _ _ (T1) (fun hHeld => ?_)
                  clear hK K
                  try simp only [Act.put, List.setIfInBounds_toArray, List.set_cons_zero, List.set_cons_succ]
                  refine wpAnyU_ready (rs := [5, 7, 10]) (by kernel_rfl) (by simp) ?_
                  refine consU rfl (fun K hK => ?_) ?_
                  · refine step_from_lit rfl (.tmp 45) (.tmp 47) rfl slRule rfl rfl RL1 hok (by omega) ?_
                    intro A5 c5 w5 hown5 hb5
                    have O0 := hown5.mono (base' := wr.heap.size) (by have := K1.size; first | (simp; done) | (simp at this ⊢; omega))
                    have K2 := K1.trans (hb5.mono K1.size)
                    have T2 : _ ∧ _ ∧ _ ∧ _ := ⟨cellKeep hb5 T1.1, cellKeep hb5 T1.2.1, cellKeep hb5 T1.2.2.1, cellKeep hb5 T1.2.2.2⟩
                    have RL2 := RL1.below hb5
                    refine hK.out _ _ (T2) (fun hHeld => ?_)
                    clear hK K
                    try simp only [Act.put, List.setIfInBounds_toArray, List.set_cons_zero, List.set_cons_succ]
                    refine wpAnyU_ready (rs := [7, 10]) (by kernel_rfl) (by simp) ?_
                    refine consU rfl (fun K hK => ?_) ?_
                    · go_simp
                      have K3 := K2.trans ((ref_al _ (.cells #[.string ⟨rl.toArray⟩, .string ⟨rr.toArray⟩] 84)).mono K2.size)
                      have T3 : _ ∧ _ ∧ _ ∧ _ := ⟨cellKeep (ref_al _ (.cells #[.string ⟨rl.toArray⟩, .string ⟨rr.toArray⟩] 84)) T2.1, cellKeep (ref_al _ (.cells #[.string ⟨rl.toArray⟩, .string ⟨rr.toArray⟩] 84)) T2.2.1, cellKeep (ref_al _ (.cells #[.string ⟨rl.toArray⟩, .string ⟨rr.toArray⟩] 84)) T2.2.2.1, cellKeep (ref_al _ (.cells #[.string ⟨rl.toArray⟩, .string ⟨rr.toArray⟩] 84)) T2.2.2.2⟩
                      have RL3 := RL2.below (ref_al _ (.cells #[.string ⟨rl.toArray⟩, .string ⟨rr.toArray⟩] 84))
                      have O3 := O0.below (ref_al _ (.cells #[.string ⟨rl.toArray⟩, .string ⟨rr.toArray⟩] 84))
                      have RX3 : Rd ((w5.alloc (.cells #[.string ⟨rl.toArray⟩, .string ⟨rr.toArray⟩] 84))) 2 (some ⟨w5.heap.size, 0, none⟩) 1 (ruleCells ⟨rl, rr⟩) := rd_lit _ ⟨rl, rr⟩ _
                      refine hK.out _ _ (T3) (fun hHeld => ?_)
                      clear hK K
                      try simp only [Act.put, List.setIfInBounds_toArray, List.set_cons_zero, List.set_cons_succ]
                      refine wpAnyU_ready (rs := [8, 10]) (by kernel_rfl) (by simp) ?_
                      refine consU rfl (fun K hK => ?_) ?_
                      · refine step_push_off rfl (.tmp 48) (.tmp 50) rfl slRule rfl O3 rfl RX3 (ruleCells_one ⟨rl, rr⟩) (by have := K3.size; simpa using this) (by omega) ?_
                        intro A8 c8 w8 hown8 hg8 hat8
                        have b8 := (Below.refl wr.heap.size _).grown hg8 (by have := K3.size; simpa using this) (fun _ hk => (O3.lt _ hk).1)
                        have K4 := K3.trans b8
                        have T4 : _ ∧ _ ∧ _ ∧ _ := ⟨cellBelow b8 (by omega) T3.1, cellBelow b8 (by omega) T3.2.1, cellBelow b8 (by omega) T3.2.2.1, cellBelow b8 (by omega) T3.2.2.2⟩
                        refine hK.out _ _ (T4) (fun hHeld => ?_)
                        clear hK K
                        try simp only [Act.put, List.setIfInBounds_toArray, List.set_cons_zero, List.set_cons_succ]
                        refine takeU (i := 9) (v := ?v6) rfl (by kernel_rfl) (fun _ _ _ h => h) (Or.inl ⟨by rfl, ?hy6⟩) (by assumption) ?rest6
                        case hy6 => (intro w hSw; (try dsimp only at hSw); (first | (go_simp; done) | (go_simp; with_reducible rfl)))
                        case rest6 =>
                          try simp only [Act.put, List.setIfInBounds_toArray, List.set_cons_zero, List.set_cons_succ]
                          refine wpAnyU_ready (rs := [10]) (by kernel_rfl) (by simp) ?_
                          refine consU rfl (fun K hK => ?_) ?_
                          · go_simp
                            have K5 := K4.trans ((ref_al _ (.cells #[.int .i64 0, .slice none 0 0] 28)).mono K4.size)
                            have T5 : _ ∧ _ ∧ _ ∧ _ := ⟨cellKeep (ref_al _ (.cells #[.int .i64 0, .slice none 0 0] 28)) T4.1, cellKeep (ref_al _ (.cells #[.int .i64 0, .slice none 0 0] 28)) T4.2.1, cellKeep (ref_al _ (.cells #[.int .i64 0, .slice none 0 0] 28)) T4.2.2.1, cellKeep (ref_al _ (.cells #[.int .i64 0, .slice none 0 0] 28)) T4.2.2.2⟩
                            have O5 := hown8.below (ref_al _ (.cells #[.int .i64 0, .slice none 0 0] 28))
                            have NG : wr.heap.size ≤ w8.heap.size := by have := K4.size; first | omega | (simp at this ⊢; omega)
                            have G5 : ((w8.alloc (.cells #[.int .i64 0, .slice none 0 0] 28))).heap[w8.heap.size]? = some (.cells #[.int .i64 0, .slice none 0 0] 28 (0, 0)) := heap_alloc_new _ _
                            refine hK.out _ _ (T5) (fun hHeld => ?_)
                            clear hK K
                            try simp only [Act.put, List.setIfInBounds_toArray, List.set_cons_zero, List.set_cons_succ]
                            refine wpAnyU_ready (rs := [11]) (by kernel_rfl) (by simp) ?_
                            refine lastU rfl (fun K hK => ?_)
                            have c0 : ((w8.alloc (.cells #[.int .i64 0, .slice none 0 0] 28))).cell? ⟨w8.heap.size, 0, none⟩ = some (.int .i64 0) := (cell_of_row _ _ 0 _ _ _ G5).trans rfl
                            have c1 : ((w8.alloc (.cells #[.int .i64 0, .slice none 0 0] 28))).cell? ⟨w8.heap.size, 1, none⟩ = some (.slice none 0 0) := (cell_of_row _ _ 1 _ _ _ G5).trans rfl
                            have f0 : ((w8.alloc (.cells #[.int .i64 0, .slice none 0 0] 28))).frozen? ⟨w8.heap.size, 0, none⟩ = false := frozen_of_row _ _ 0 _ _ G5
                            have f1 : ((w8.alloc (.cells #[.int .i64 0, .slice none 0 0] 28))).frozen? ⟨w8.heap.size, 1, none⟩ = false := frozen_of_row _ _ 1 _ _ G5
                            go_simp
                            refine hK.out _ _ ?_
                            clear hK K
                            try simp only [Act.put, List.setIfInBounds_toArray, List.set_cons_zero, List.set_cons_succ]
                            refine wpAnyU_done (by kernel_rfl) ?_ _
                            exact cont _ _ A8 c8 _ _ _ _ _ _ _ _ _ _ _ _ _ _ _ _ _ _ _ _ _ _ _ _ _ _ _ _ _ _ _ _ _ _ _ _ _ _ _ _ _ _ _ _ _ _ _ (K4.alloc NG _) (by simp [go_sem]) (by simp [go_sem]) (by rw [ruls_snoc]; exact (hown8.below (ref_al _ _)).own.rd)
                          exact AllU.nil
                      refine consU rfl (fun K hK => ?_) ?_
                      · go_simp
                        have K4 := K3.trans ((ref_al _ (.cells #[.int .i64 0, .slice none 0 0] 28)).mono K3.size)
                        have T4 : _ ∧ _ ∧ _ ∧ _ := ⟨cellKeep (ref_al _ (.cells #[.int .i64 0, .slice none 0 0] 28)) T3.1, cellKeep (ref_al _ (.cells #[.int .i64 0, .slice none 0 0] 28)) T3.2.1, cellKeep (ref_al _ (.cells #[.int .i64 0, .slice none 0 0] 28)) T3.2.2.1, cellKeep (ref_al _ (.cells #[.int .i64 0, .slice none 0 0] 28)) T3.2.2.2⟩
                        have RL4 := RL3.below (ref_al _ (.cells #[.int .i64 0, .slice none 0 0] 28))
                        have O4 := O3.below (ref_al _ (.cells #[.int .i64 0, .slice none 0 0] 28))
                        have RX4 := RX3.below (ref_al _ (.cells #[.int .i64 0, .slice none 0 0] 28))
                        have NG : wr.heap.size ≤ w5.heap.size + 1 := by have := K3.size; first | omega | (simp at this ⊢; omega)
                        have G4 : (((w5.alloc (.cells #[.string ⟨rl.toArray⟩, .string ⟨rr.toArray⟩] 84)).alloc (.cells #[.int .i64 0, .slice none 0 0] 28))).heap[w5.heap.size + 1]? = some (.cells #[.int .i64 0, .slice none 0 0] 28 (0, 0)) := by rw [show w5.heap.size + 1 = ((w5.alloc (.cells #[.string ⟨rl.toArray⟩, .string ⟨rr.toArray⟩] 84))).heap.size by simp]; exact heap_alloc_new _ _
                        refine hK.out _ _ (T4) (fun hHeld => ?_)
                        clear hK K
                        try simp only [Act.put, List.setIfInBounds_toArray, List.set_cons_zero, List.set_cons_succ]
                        refine wpAnyU_ready (rs := [8]) (by kernel_rfl) (by simp) ?_
                        refine consU rfl (fun K hK => ?_) ?_
                        · refine step_push_off rfl (.tmp 48) (.tmp 50) rfl slRule rfl O4 rfl RX4 (ruleCells_one ⟨rl, rr⟩) (by have := K4.size; simpa using this) (by omega) ?_
                          intro A8 c8 w8 hown8 hg8 hat8
                          have b8 := (Below.refl wr.heap.size _).grown hg8 (by have := K4.size; simpa using this) (fun _ hk => (O4.lt _ hk).1)
                          have K5 := K4.trans b8
                          have G5 := (hg8.block _ (Array.getElem?_eq_some_iff.1 G4).1 (fun e => by obtain ⟨cu, hcu⟩ := O4.type e.symm; rw [G4] at hcu; simp at hcu)).trans G4
                          have T5 : _ ∧ _ ∧ _ ∧ _ := ⟨cellBelow b8 (by omega) T4.1, cellBelow b8 (by omega) T4.2.1, cellBelow b8 (by omega) T4.2.2.1, cellBelow b8 (by omega) T4.2.2.2⟩
                          refine hK.out _ _ (T5) (fun hHeld => ?_)
                          clear hK K
                          try simp only [Act.put, List.setIfInBounds_toArray, List.set_cons_zero, List.set_cons_succ]
                          refine takeU (i := 9) (v := ?v7) rfl (by kernel_rfl) (fun _ _ _ h => h) (Or.inl ⟨by rfl, ?hy7⟩) (by assumption) ?rest7
                          case hy7 => (intro w hSw; (try dsimp only at hSw); (first | (go_simp; done) | (go_simp; with_reducible rfl)))
                          case rest7 =>
                            try simp only [Act.put, List.setIfInBounds_toArray, List.set_cons_zero, List.set_cons_succ]
                            refine wpAnyU_ready (rs := [11]) (by kernel_rfl) (by simp) ?_
                            refine lastU rfl (fun K hK => ?_)
                            have c0 : (w8).cell? ⟨w5.heap.size + 1, 0, none⟩ = some (.int .i64 0) := (cell_of_row _ _ 0 _ _ _ G5).trans rfl
                            have c1 : (w8).cell? ⟨w5.heap.size + 1, 1, none⟩ = some (.slice none 0 0) := (cell_of_row _ _ 1 _ _ _ G5).trans rfl
                            have f0 : (w8).frozen? ⟨w5.heap.size + 1, 0, none⟩ = false := frozen_of_row _ _ 0 _ _ G5
                            have f1 : (w8).frozen? ⟨w5.heap.size + 1, 1, none⟩ = false := frozen_of_row _ _ 1 _ _ G5
                            go_simp
                            refine hK.out _ _ ?_
                            clear hK K
                            try simp only [Act.put, List.setIfInBounds_toArray, List.set_cons_zero, List.set_cons_succ]
                            refine wpAnyU_done (by kernel_rfl) ?_ _
                            exact cont _ _ _ _ _ _ _ _ _ _ _ _ _ _ _ _ _ _ _ _ _ _ _ _ _ _ _ _ _ _ _ _ _ _ _ _ _ _ _ _ _ _ _ _ _ _ _ _ _ _ _ ((K5.setCell NG _).setCell NG _) ((cell_set_ne _ (Or.inr (by decide))).trans (cell_set_eq _ c0)) (cell_two' c1 _ _) (by rw [ruls_snoc]; exact (hown8.stored2 G5 (by decide) _ _).own.rd)
                        exact AllU.nil
                      exact AllU.nil
                    refine consU rfl (fun K hK => ?_) ?_
                    · go_simp
                      have K3 := K2.trans ((ref_al _ (.cells #[.int .i64 0, .slice none 0 0] 28)).mono K2.size)
                      have T3 : _ ∧ _ ∧ _ ∧ _ := ⟨cellKeep (ref_al _ (.cells #[.int .i64 0, .slice none 0 0] 28)) T2.1, cellKeep (ref_al _ (.cells #[.int .i64 0, .slice none 0 0] 28)) T2.2.1, cellKeep (ref_al _ (.cells #[.int .i64 0, .slice none 0 0] 28)) T2.2.2.1, cellKeep (ref_al _ (.cells #[.int .i64 0, .slice none 0 0] 28)) T2.2.2.2⟩
                      have RL3 := RL2.below (ref_al _ (.cells #[.int .i64 0, .slice none 0 0] 28))
                      have O3 := O0.below (ref_al _ (.cells #[.int .i64 0, .slice none 0 0] 28))
                      have NG : wr.heap.size ≤ w5.heap.size := by have := K2.size; first | omega | (simp at this ⊢; omega)
                      have G3 : ((w5.alloc (.cells #[.int .i64 0, .slice none 0 0] 28))).heap[w5.heap.size]? = some (.cells #[.int .i64 0, .slice none 0 0] 28 (0, 0)) := heap_alloc_new _ _
                      refine hK.out _ _ (T3) (fun hHeld => ?_)
                      clear hK K
                      try simp only [Act.put, List.setIfInBounds_toArray, List.set_cons_zero, List.set_cons_succ]
                      refine wpAnyU_ready (rs := [7]) (by kernel_rfl) (by simp) ?_
                      refine consU rfl (fun K hK => ?_) ?_
                      · go_simp
                        have K4 := K3.trans ((ref_al _ (.cells #[.string ⟨rl.toArray⟩, .string ⟨rr.toArray⟩] 84)).mono K3.size)
                        have T4 : _ ∧ _ ∧ _ ∧ _ := ⟨cellKeep (ref_al _ (.cells #[.string ⟨rl.toArray⟩, .string ⟨rr.toArray⟩] 84)) T3.1, cellKeep (ref_al _ (.cells #[.string ⟨rl.toArray⟩, .string ⟨rr.toArray⟩] 84)) T3.2.1, cellKeep (ref_al _ (.cells #[.string ⟨rl.toArray⟩, .string ⟨rr.toArray⟩] 84)) T3.2.2.1, cellKeep (ref_al _ (.cells #[.string ⟨rl.toArray⟩, .string ⟨rr.toArray⟩] 84)) T3.2.2.2⟩
                        have RL4 := RL3.below (ref_al _ (.cells #[.string ⟨rl.toArray⟩, .string ⟨rr.toArray⟩] 84))
                        have O4 := O3.below (ref_al _ (.cells #[.string ⟨rl.toArray⟩, .string ⟨rr.toArray⟩] 84))
                        have G4 := ((ref_al _ (.cells #[.string ⟨rl.toArray⟩, .string ⟨rr.toArray⟩] 84)).block _ (Array.getElem?_eq_some_iff.1 G3).1).trans G3
                        have RX4 : Rd (((w5.alloc (.cells #[.int .i64 0, .slice none 0 0] 28)).alloc (.cells #[.string ⟨rl.toArray⟩, .string ⟨rr.toArray⟩] 84))) 2 (some ⟨w5.heap.size + 1, 0, none⟩) 1 (ruleCells ⟨rl, rr⟩) := by rw [show w5.heap.size + 1 = ((w5.alloc (.cells #[.int .i64 0, .slice none 0 0] 28))).heap.size by simp]; exact rd_lit _ ⟨rl, rr⟩ _
                        refine hK.out _ _ (T4) (fun hHeld => ?_)
                        clear hK K
                        try simp only [Act.put, List.setIfInBounds_toArray, List.set_cons_zero, List.set_cons_succ]
                        refine wpAnyU_ready (rs := [8]) (by kernel_rfl) (by simp) ?_
                        refine consU rfl (fun K hK => ?_) ?_
                        · refine step_push_off rfl (.tmp 48) (.tmp 50) rfl slRule rfl O4 rfl RX4 (ruleCells_one ⟨rl, rr⟩) (by have := K4.size; simpa using this) (by omega) ?_
                          intro A8 c8 w8 hown8 hg8 hat8
                          have b8 := (Below.refl wr.heap.size _).grown hg8 (by have := K4.size; simpa using this) (fun _ hk => (O4.lt _ hk).1)
                          have K5 := K4.trans b8
                          have G5 := (hg8.block _ (Array.getElem?_eq_some_iff.1 G4).1 (fun e => by obtain ⟨cu, hcu⟩ := O4.type e.symm; rw [G4] at hcu; simp at hcu)).trans G4
                          have T5 : _ ∧ _ ∧ _ ∧ _ := ⟨cellBelow b8 (by omega) T4.1, cellBelow b8 (by omega) T4.2.1, cellBelow b8 (by omega) T4.2.2.1, cellBelow b8 (by omega) T4.2.2.2⟩
                          refine hK.out _ _ (T5) (fun hHeld => ?_)
                          clear hK K
                          try simp only [Act.put, List.setIfInBounds_toArray, List.set_cons_zero, List.set_cons_succ]
                          refine takeU (i := 9) (v := ?v8) rfl (by kernel_rfl) (fun _ _ _ h => h) (Or.inl ⟨by rfl, ?hy8⟩) (by assumption) ?rest8
                          case hy8 => (intro w hSw; (try dsimp only at hSw); (first | (go_simp; done) | (go_simp; with_reducible rfl)))
                          case rest8 =>
                            try simp only [Act.put, List.setIfInBounds_toArray, List.set_cons_zero, List.set_cons_succ]
                            refine wpAnyU_ready (rs := [11]) (by kernel_rfl) (by simp) ?_
                            refine lastU rfl (fun K hK => ?_)
                            have c0 : (w8).cell? ⟨w5.heap.size, 0, none⟩ = some (.int .i64 0) := (cell_of_row _ _ 0 _ _ _ G5).trans rfl
                            have c1 : (w8).cell? ⟨w5.heap.size, 1, none⟩ = some (.slice none 0 0) := (cell_of_row _ _ 1 _ _ _ G5).trans rfl
                            have f0 : (w8).frozen? ⟨w5.heap.size, 0, none⟩ = false := frozen_of_row _ _ 0 _ _ G5
                            have f1 : (w8).frozen? ⟨w5.heap.size, 1, none⟩ = false := frozen_of_row _ _ 1 _ _ G5
                            go_simp
                            refine hK.out _ _ ?_
                            clear hK K
                            try simp only [Act.put, List.setIfInBounds_toArray, List.set_cons_zero, List.set_cons_succ]
                            refine wpAnyU_done (by kernel_rfl) ?_ _
                            exact cont _ _ _ _ _ _ _ _ _ _ _ _ _ _ _ _ _ _ _ _ _ _ _ _ _ _ _ _ _ _ _ _ _ _ _ _ _ _ _ _ _ _ _ _ _ _ _ _ _ _ _ ((K5.setCell NG _).setCell NG _) ((cell_set_ne _ (Or.inr (by decide))).trans (cell_set_eq _ c0)) (cell_two' c1 _ _) (by rw [ruls_snoc]; exact (hown8.stored2 G5 (by decide) _ _).own.rd)
                        exact AllU.nil
                      exact AllU.nil
                    exact AllU.nil
                  refine consU rfl (fun K hK => ?_) ?_
                  · go_simp
                    have K2 := K1.trans ((ref_al _ (.cells #[.string ⟨rl.toArray⟩, .string ⟨rr.toArray⟩] 84)).mono K1.size)
                    have T2 : _ ∧ _ ∧ _ ∧ _ := ⟨cellKeep (ref_al _ (.cells #[.string ⟨rl.toArray⟩, .string ⟨rr.toArray⟩] 84)) T1.1, cellKeep (ref_al _ (.cells #[.string ⟨rl.toArray⟩, .string ⟨rr.toArray⟩] 84)) T1.2.1, cellKeep (ref_al _ (.cells #[.string ⟨rl.toArray⟩, .string ⟨rr.toArray⟩] 84)) T1.2.2.1, cellKeep (ref_al _ (.cells #[.string ⟨rl.toArray⟩, .string ⟨rr.toArray⟩] 84)) T1.2.2.2⟩
                    have RL2 := RL1.below (ref_al _ (.cells #[.string ⟨rl.toArray⟩, .string ⟨rr.toArray⟩] 84))
                    have RX2 : Rd (((wr.drew.alloc (.cells #[] 84)).alloc (.cells #[.string ⟨rl.toArray⟩, .string ⟨rr.toArray⟩] 84))) 2 (some ⟨wr.heap.size + 1, 0, none⟩) 1 (ruleCells ⟨rl, rr⟩) := by rw [show wr.heap.size + 1 = ((wr.drew.alloc (.cells #[] 84))).heap.size by simp]; exact rd_lit _ ⟨rl, rr⟩ _
                    refine hK.out _ _ (T2) (fun hHeld => ?_)
                    clear hK K
                    try simp only [Act.put, List.setIfInBounds_toArray, List.set_cons_zero, List.set_cons_succ]
                    refine wpAnyU_ready (rs := [5, 10]) (by kernel_rfl) (by simp) ?_
                    refine consU rfl (fun K hK => ?_) ?_
                    · refine step_from_lit rfl (.tmp 45) (.tmp 47) rfl slRule rfl rfl RL2 hok (by omega) ?_
                      intro A5 c5 w5 hown5 hb5
                      have O0 := hown5.mono (base' := wr.heap.size) (by have := K2.size; first | (simp; done) | (simp at this ⊢; omega))
                      have K3 := K2.trans (hb5.mono K2.size)
                      have T3 : _ ∧ _ ∧ _ ∧ _ := ⟨cellKeep hb5 T2.1, cellKeep hb5 T2.2.1, cellKeep hb5 T2.2.2.1, cellKeep hb5 T2.2.2.2⟩
                      have RL3 := RL2.below hb5
                      have RX3 := RX2.below hb5
                      refine hK.out _ _ (T3) (fun hHeld => ?_)
                      clear hK K
                      try simp only [Act.put, List.setIfInBounds_toArray, List.set_cons_zero, List.set_cons_succ]
                      refine wpAnyU_ready (rs := [8, 10]) (by kernel_rfl) (by simp) ?_
                      refine consU rfl (fun K hK => ?_) ?_
                      · refine step_push_off rfl (.tmp 48) (.tmp 50) rfl slRule rfl O0 rfl RX3 (ruleCells_one ⟨rl, rr⟩) (by have := K3.size; simpa using this) (by omega) ?_
                        intro A8 c8 w8 hown8 hg8 hat8
                        have b8 := (Below.refl wr.heap.size _).grown hg8 (by have := K3.size; simpa using this) (fun _ hk => (O0.lt _ hk).1)
                        have K4 := K3.trans b8
                        have T4 : _ ∧ _ ∧ _ ∧ _ := ⟨cellBelow b8 (by omega) T3.1, cellBelow b8 (by omega) T3.2.1, cellBelow b8 (by omega) T3.2.2.1, cellBelow b8 (by omega) T3.2.2.2⟩
                        refine hK.out _ _ (T4) (fun hHeld => ?_)
                        clear hK K
                        try simp only [Act.put, List.setIfInBounds_toArray, List.set_cons_zero, List.set_cons_succ]
                        refine takeU (i := 9) (v := ?v9) rfl (by kernel_rfl) (fun _ _ _ h => h) (Or.inl ⟨by rfl, ?hy9⟩) (by assumption) ?rest9
                        case hy9 => (intro w hSw; (try dsimp only at hSw); (first | (go_simp; done) | (go_simp; with_reducible rfl)))
                        case rest9 =>
                          try simp only [Act.put, List.setIfInBounds_toArray, List.set_cons_zero, List.set_cons_succ]
                          refine wpAnyU_ready (rs := [10]) (by kernel_rfl) (by simp) ?_
                          refine consU rfl (fun K hK => ?_) ?_
                          · go_simp
                            have K5 := K4.trans ((ref_al _ (.cells #[.int .i64 0, .slice none 0 0] 28)).mono K4.size)
                            have T5 : _ ∧ _ ∧ _ ∧ _ := ⟨cellKeep (ref_al _ (.cells #[.int .i64 0, .slice none 0 0] 28)) T4.1, cellKeep (ref_al _ (.cells #[.int .i64 0, .slice none 0 0] 28)) T4.2.1, cellKeep (ref_al _ (.cells #[.int .i64 0, .slice none 0 0] 28)) T4.2.2.1, cellKeep (ref_al _ (.cells #[.int .i64 0, .slice none 0 0] 28)) T4.2.2.2⟩
                            have O5 := hown8.below (ref_al _ (.cells #[.int .i64 0, .slice none 0 0] 28))
                            have NG : wr.heap.size ≤ w8.heap.size := by have := K4.size; first | omega | (simp at this ⊢; omega)
                            have G5 : ((w8.alloc (.cells #[.int .i64 0, .slice none 0 0] 28))).heap[w8.heap.size]? = some (.cells #[.int .i64 0, .slice none 0 0] 28 (0, 0)) := heap_alloc_new _ _
                            refine hK.out _ _ (T5) (fun hHeld => ?_)
                            clear hK K
                            try simp only [Act.put, List.setIfInBounds_toArray, List.set_cons_zero, List.set_cons_succ]
                            refine wpAnyU_ready (rs := [11]) (by kernel_rfl) (by simp) ?_
                            refine lastU rfl (fun K hK => ?_)
                            have c0 : ((w8.alloc (.cells #[.int .i64 0, .slice none 0 0] 28))).cell? ⟨w8.heap.size, 0, none⟩ = some (.int .i64 0) := (cell_of_row _ _ 0 _ _ _ G5).trans rfl
                            have c1 : ((w8.alloc (.cells #[.int .i64 0, .slice none 0 0] 28))).cell? ⟨w8.heap.size, 1, none⟩ = some (.slice none 0 0) := (cell_of_row _ _ 1 _ _ _ G5).trans rfl
                            have f0 : ((w8.alloc (.cells #[.int .i64 0, .slice none 0 0] 28))).frozen? ⟨w8.heap.size, 0, none⟩ = false := frozen_of_row _ _ 0 _ _ G5
                            have f1 : ((w8.alloc (.cells #[.int .i64 0, .slice none 0 0] 28))).frozen? ⟨w8.heap.size, 1, none⟩ = false := frozen_of_row _ _ 1 _ _ G5
                            go_simp
                            refine hK.out _ _ ?_
                            clear hK K
                            try simp only [Act.put, List.setIfInBounds_toArray, List.set_cons_zero, List.set_cons_succ]
                            refine wpAnyU_done (by kernel_rfl) ?_ _
                            exact cont _ _ A8 c8 _ _ _ _ _ _ _ _ _ _ _ _ _ _ _ _ _ _ _ _ _ _ _ _ _ _ _ _ _ _ _ _ _ _ _ _ _ _ _ _ _ _ _ _ _ _ _ (K4.alloc NG _) (by simp [go_sem]) (by simp [go_sem]) (by rw [ruls_snoc]; exact (hown8.below (ref_al _ _)).own.rd)
                          exact AllU.nil
                      refine consU rfl (fun K hK => ?_) ?_
                      · go_simp
                        have K4 := K3.trans ((ref_al _ (.cells #[.int .i64 0, .slice none 0 0] 28)).mono K3.size)
                        have T4 : _ ∧ _ ∧ _ ∧ _ := ⟨cellKeep (ref_al _ (.cells #[.int .i64 0, .slice none 0 0] 28)) T3.1, cellKeep (ref_al _ (.cells #[.int .i64 0, .slice none 0 0] 28)) T3.2.1, cellKeep (ref_al _ (.cells #[.int .i64 0, .slice none 0 0] 28)) T3.2.2.1, cellKeep (ref_al _ (.cells #[.int .i64 0, .slice none 0 0] 28)) T3.2.2.2⟩
                        have RL4 := RL3.below (ref_al _ (.cells #[.int .i64 0, .slice none 0 0] 28))
                        have O4 := O0.below (ref_al _ (.cells #[.int .i64 0, .slice none 0 0] 28))
                        have RX4 := RX3.below (ref_al _ (.cells #[.int .i64 0, .slice none 0 0] 28))
                        have NG : wr.heap.size ≤ w5.heap.size := by have := K3.size; first | omega | (simp at this ⊢; omega)
                        have G4 : ((w5.alloc (.cells #[.int .i64 0, .slice none 0 0] 28))).heap[w5.heap.size]? = some (.cells #[.int .i64 0, .slice none 0 0] 28 (0, 0)) := heap_alloc_new _ _
                        refine hK.out _ _ (T4) (fun hHeld => ?_)
                        clear hK K
                        try simp only [Act.put, List.setIfInBounds_toArray, List.set_cons_zero, List.set_cons_succ]
                        refine wpAnyU_ready (rs := [8]) (by kernel_rfl) (by simp) ?_
                        refine consU rfl (fun K hK => ?_) ?_
                        · refine step_push_off rfl (.tmp 48) (.tmp 50) rfl slRule rfl O4 rfl RX4 (ruleCells_one ⟨rl, rr⟩) (by have := K4.size; simpa using this) (by omega) ?_
                          intro A8 c8 w8 hown8 hg8 hat8
                          have b8 := (Below.refl wr.heap.size _).grown hg8 (by have := K4.size; simpa using this) (fun _ hk => (O4.lt _ hk).1)
                          have K5 := K4.trans b8
                          have G5 := (hg8.block _ (Array.getElem?_eq_some_iff.1 G4).1 (fun e => by obtain ⟨cu, hcu⟩ := O4.type e.symm; rw [G4] at hcu; simp at hcu)).trans G4
                          have T5 : _ ∧ _ ∧ _ ∧ _ := ⟨cellBelow b8 (by omega) T4.1, cellBelow b8 (by omega) T4.2.1, cellBelow b8 (by omega) T4.2.2.1, cellBelow b8 (by omega) T4.2.2.2⟩
                          refine hK.out _ _ (T5) (fun hHeld => ?_)
                          clear hK K
                          try simp only [Act.put, List.setIfInBounds_toArray, List.set_cons_zero, List.set_cons_succ]
                          refine takeU (i := 9) (v := ?v10) rfl (by kernel_rfl) (fun _ _ _ h => h) (Or.inl ⟨by rfl, ?hy10⟩) (by assumption) ?rest10
                          case hy10 => (intro w hSw; (try dsimp only at hSw); (first | (go_simp; done) | (go_simp; with_reducible rfl)))
                          case rest10 =>
                            try simp only [Act.put, List.setIfInBounds_toArray, List.set_cons_zero, List.set_cons_succ]
                            refine wpAnyU_ready (rs := [11]) (by kernel_rfl) (by simp) ?_
                            refine lastU rfl (fun K hK => ?_)
                            have c0 : (w8).cell? ⟨w5.heap.size, 0, none⟩ = some (.int .i64 0) := (cell_of_row _ _ 0 _ _ _ G5).trans rfl
                            have c1 : (w8).cell? ⟨w5.heap.size, 1, none⟩ = some (.slice none 0 0) := (cell_of_row _ _ 1 _ _ _ G5).trans rfl
                            have f0 : (w8).frozen? ⟨w5.heap.size, 0, none⟩ = false := frozen_of_row _ _ 0 _ _ G5
                            have f1 : (w8).frozen? ⟨w5.heap.size, 1, none⟩ = false := frozen_of_row _ _ 1 _ _ G5
                            go_simp
                            refine hK.out _ _ ?_
                            clear hK K
                            try simp only [Act.put, List.setIfInBounds_toArray, List.set_cons_zero, List.set_cons_succ]
                            refine wpAnyU_done (by kernel_rfl) ?_ _
                            exact cont _ _ _ _ _ _ _ _ _ _ _ _ _ _ _ _ _ _ _ _ _ _ _ _ _ _ _ _ _ _ _ _ _ _ _ _ _ _ _ _ _ _ _ _ _ _ _ _ _ _ _ ((K5.setCell NG _).setCell NG _) ((cell_set_ne _ (Or.inr (by decide))).trans (cell_set_eq _ c0)) (cell_two' c1 _ _) (by rw [ruls_snoc]; exact (hown8.stored2 G5 (by decide) _ _).own.rd)
                        exact AllU.nil
                      exact AllU.nil
                    refine consU rfl (fun K hK => ?_) ?_
                    · go_simp
                      have K3 := K2.trans ((ref_al _ (.cells #[.int .i64 0, .slice none 0 0] 28)).mono K2.size)
                      have T3 : _ ∧ _ ∧ _ ∧ _ := ⟨cellKeep (ref_al _ (.cells #[.int .i64 0, .slice none 0 0] 28)) T2.1, cellKeep (ref_al _ (.cells #[.int .i64 0, .slice none 0 0] 28)) T2.2.1, cellKeep (ref_al _ (.cells #[.int .i64 0, .slice none 0 0] 28)) T2.2.2.1, cellKeep (ref_al _ (.cells #[.int .i64 0, .slice none 0 0] 28)) T2.2.2.2⟩
                      have RL3 := RL2.below (ref_al _ (.cells #[.int .i64 0, .slice none 0 0] 28))
                      have RX3 := RX2.below (ref_al _ (.cells #[.int .i64 0, .slice none 0 0] 28))
                      have NG : wr.heap.size ≤ wr.heap.size + 2 := by have := K2.size; first | omega | (simp at this ⊢; omega)
                      have G3 : ((((wr.drew.alloc (.cells #[] 84)).alloc (.cells #[.string ⟨rl.toArray⟩, .string ⟨rr.toArray⟩] 84)).alloc (.cells #[.int .i64 0, .slice none 0 0] 28))).heap[wr.heap.size + 2]? = some (.cells #[.int .i64 0, .slice none 0 0] 28 (0, 0)) := by rw [show wr.heap.size + 2 = (((wr.drew.alloc (.cells #[] 84)).alloc (.cells #[.string ⟨rl.toArray⟩, .string ⟨rr.toArray⟩] 84))).heap.size by simp]; exact heap_alloc_new _ _
                      refine hK.out _ _ (T3) (fun hHeld => ?_)
                      clear hK K
                      try simp only [Act.put, List.setIfInBounds_toArray, List.set_cons_zero, List.set_cons_succ]
                      refine wpAnyU_ready (rs := [5]) (by kernel_rfl) (by simp) ?_
                      refine consU rfl (fun K hK => ?_) ?_
                      · refine step_from_lit rfl (.tmp 45) (.tmp 47) rfl slRule rfl rfl RL3 hok (by omega) ?_
                        intro A5 c5 w5 hown5 hb5
                        have O0 := hown5.mono (base' := wr.heap.size) (by have := K3.size; first | (simp; done) | (simp at this ⊢; omega))
                        have K4 := K3.trans (hb5.mono K3.size)
                        have T4 : _ ∧ _ ∧ _ ∧ _ := ⟨cellKeep hb5 T3.1, cellKeep hb5 T3.2.1, cellKeep hb5 T3.2.2.1, cellKeep hb5 T3.2.2.2⟩
                        have RL4 := RL3.below hb5
                        have RX4 := RX3.below hb5
                        have G4 := (hb5.block _ (Array.getElem?_eq_some_iff.1 G3).1).trans G3
                        refine hK.out _ _ (T4) (fun hHeld => ?_)
                        clear hK K
                        try simp only [Act.put, List.setIfInBounds_toArray, List.set_cons_zero, List.set_cons_succ]
                        refine wpAnyU_ready (rs := [8]) (by kernel_rfl) (by simp) ?_
                        refine consU rfl (fun K hK => ?_) ?_
                        · refine step_push_off rfl (.tmp 48) (.tmp 50) rfl slRule rfl O0 rfl RX4 (ruleCells_one ⟨rl, rr⟩) (by have := K4.size; simpa using this) (by omega) ?_
                          intro A8 c8 w8 hown8 hg8 hat8
                          have b8 := (Below.refl wr.heap.size _).grown hg8 (by have := K4.size; simpa using this) (fun _ hk => (O0.lt _ hk).1)
                          have K5 := K4.trans b8
                          have G5 := (hg8.block _ (Array.getElem?_eq_some_iff.1 G4).1 (fun e => by obtain ⟨cu, hcu⟩ := O0.type e.symm; rw [G4] at hcu; simp at hcu)).trans G4
                          have T5 : _ ∧ _ ∧ _ ∧ _ := ⟨cellBelow b8 (by omega) T4.1, cellBelow b8 (by omega) T4.2.1, cellBelow b8 (by omega) T4.2.2.1, cellBelow b8 (by omega) T4.2.2.2⟩
                          refine hK.out _ _ (T5) (fun hHeld => ?_)
                          clear hK K
                          try simp only [Act.put, List.setIfInBounds_toArray, List.set_cons_zero, List.set_cons_succ]
                          refine takeU (i := 9) (v := ?v11) rfl (by kernel_rfl) (fun _ _ _ h => h) (Or.inl ⟨by rfl, ?hy11⟩) (by assumption) ?rest11
                          case hy11 => (intro w hSw; (try dsimp only at hSw); (first | (go_simp; done) | (go_simp; with_reducible rfl)))
                          case rest11 =>
                            try simp only [Act.put, List.setIfInBounds_toArray, List.set_cons_zero, List.set_cons_succ]
                            refine wpAnyU_ready (rs := [11]) (by kernel_rfl) (by simp) ?_
                            refine lastU rfl (fun K hK => ?_)
                            have c0 : (w8).cell? ⟨wr.heap.size + 2, 0, none⟩ = some (.int .i64 0) := (cell_of_row _ _ 0 _ _ _ G5).trans rfl
                            have c1 : (w8).cell? ⟨wr.heap.size + 2, 1, none⟩ = some (.slice none 0 0) := (cell_of_row _ _ 1 _ _ _ G5).trans rfl
                            have f0 : (w8).frozen? ⟨wr.heap.size + 2, 0, none⟩ = false := frozen_of_row _ _ 0 _ _ G5
                            have f1 : (w8).frozen? ⟨wr.heap.size + 2, 1, none⟩ = false := frozen_of_row _ _ 1 _ _ G5
                            go_simp
                            refine hK.out _ _ ?_
                            clear hK K
                            try simp only [Act.put, List.setIfInBounds_toArray, List.set_cons_zero, List.set_cons_succ]
                            refine wpAnyU_done (by kernel_rfl) ?_ _
                            exact cont _ _ _ _ _ _ _ _ _ _ _ _ _ _ _ _ _ _ _ _ _ _ _ _ _ _ _ _ _ _ _ _ _ _ _ _ _ _ _ _ _ _ _ _ _ _ _ _ _ _ _ ((K5.setCell NG _).setCell NG _) ((cell_set_ne _ (Or.inr (by decide))).trans (cell_set_eq _ c0)) (cell_two' c1 _ _) (by rw [ruls_snoc]; exact (hown8.stored2 G5 (by decide) _ _).own.rd)
                        exact AllU.nil
                      exact AllU.nil
                    exact AllU.nil
                  refine consU rfl (fun K hK => ?_) ?_
                  · go_simp
                    have K2 := K1.trans ((ref_al _ (.cells #[.int .i64 0, .slice none 0 0] 28)).mono K1.size)
                    have T2 : _ ∧ _ ∧ _ ∧ _ := ⟨cellKeep (ref_al _ (.cells #[.int .i64 0, .slice none 0 0] 28)) T1.1, cellKeep (ref_al _ (.cells #[.int .i64 0, .slice none 0 0] 28)) T1.2.1, cellKeep (ref_al _ (.cells #[.int .i64 0, .slice none 0 0] 28)) T1.2.2.1, cellKeep (ref_al _ (.cells #[.int .i64 0, .slice none 0 0] 28)) T1.2.2.2⟩
                    have RL2 := RL1.below (ref_al _ (.cells #[.int .i64 0, .slice none 0 0] 28))
                    have NG : wr.heap.size ≤ wr.heap.size + 1 := by have := K1.size; first | omega | (simp at this ⊢; omega)
                    have G2 : (((wr.drew.alloc (.cells #[] 84)).alloc (.cells #[.int .i64 0, .slice none 0 0] 28))).heap[wr.heap.size + 1]? = some (.cells #[.int .i64 0, .slice none 0 0] 28 (0, 0)) := by rw [show wr.heap.size + 1 = ((wr.drew.alloc (.cells #[] 84))).heap.size by simp]; exact heap_alloc_new _ _
                    refine hK.out _ _ (T2) (fun hHeld => ?_)
                    clear hK K
                    try simp only [Act.put, List.setIfInBounds_toArray, List.set_cons_zero, List.set_cons_succ]
                    refine wpAnyU_ready (rs := [5, 7]) (by kernel_rfl) (by simp) ?_
                    refine consU rfl (fun K hK => ?_) ?_
                    · refine step_from_lit rfl (.tmp 45) (.tmp 47) rfl slRule rfl rfl RL2 hok (by omega) ?_
                      intro A5 c5 w5 hown5 hb5
                      have O0 := hown5.mono (base' := wr.heap.size) (by have := K2.size; first | (simp; done) | (simp at this ⊢; omega))
                      have K3 := K2.trans (hb5.mono K2.size)
                      have T3 : _ ∧ _ ∧ _ ∧ _ := ⟨cellKeep hb5 T2.1, cellKeep hb5 T2.2.1, cellKeep hb5 T2.2.2.1, cellKeep hb5 T2.2.2.2⟩
                      have RL3 := RL2.below hb5
                      have G3 := (hb5.block _ (Array.getElem?_eq_some_iff.1 G2).1).trans G2
                      refine hK.out _ _ (T3) (fun hHeld => ?_)
                      clear hK K
                      try simp only [Act.put, List.setIfInBounds_toArray, List.set_cons_zero, List.set_cons_succ]
                      refine wpAnyU_ready (rs := [7]) (by kernel_rfl) (by simp) ?_
                      refine consU rfl (fun K hK => ?_) ?_
                      · go_simp
                        have K4 := K3.trans ((ref_al _ (.cells #[.string ⟨rl.toArray⟩, .string ⟨rr.toArray⟩] 84)).mono K3.size)
                        have T4 : _ ∧ _ ∧ _ ∧ _ := ⟨cellKeep (ref_al _ (.cells #[.string ⟨rl.toArray⟩, .string ⟨rr.toArray⟩] 84)) T3.1, cellKeep (ref_al _ (.cells #[.string ⟨rl.toArray⟩, .string ⟨rr.toArray⟩] 84)) T3.2.1, cellKeep (ref_al _ (.cells #[.string ⟨rl.toArray⟩, .string ⟨rr.toArray⟩] 84)) T3.2.2.1, cellKeep (ref_al _ (.cells #[.string ⟨rl.toArray⟩, .string ⟨rr.toArray⟩] 84)) T3.2.2.2⟩
                        have RL4 := RL3.below (ref_al _ (.cells #[.string ⟨rl.toArray⟩, .string ⟨rr.toArray⟩] 84))
                        have O4 := O0.below (ref_al _ (.cells #[.string ⟨rl.toArray⟩, .string ⟨rr.toArray⟩] 84))
                        have G4 := ((ref_al _ (.cells #[.string ⟨rl.toArray⟩, .string ⟨rr.toArray⟩] 84)).block _ (Array.getElem?_eq_some_iff.1 G3).1).trans G3
                        have RX4 : Rd ((w5.alloc (.cells #[.string ⟨rl.toArray⟩, .string ⟨rr.toArray⟩] 84))) 2 (some ⟨w5.heap.size, 0, none⟩) 1 (ruleCells ⟨rl, rr⟩) := rd_lit _ ⟨rl, rr⟩ _
                        refine hK.out _ _ (T4) (fun hHeld => ?_)
                        clear hK K
                        try simp only [Act.put, List.setIfInBounds_toArray, List.set_cons_zero, List.set_cons_succ]
                        refine wpAnyU_ready (rs := [8]) (by kernel_rfl) (by simp) ?_
                        refine consU rfl (fun K hK => ?_) ?_
                        · refine step_push_off rfl (.tmp 48) (.tmp 50) rfl slRule rfl O4 rfl RX4 (ruleCells_one ⟨rl, rr⟩) (by have := K4.size; simpa using this) (by omega) ?_
                          intro A8 c8 w8 hown8 hg8 hat8
                          have b8 := (Below.refl wr.heap.size _).grown hg8 (by have := K4.size; simpa using this) (fun _ hk => (O4.lt _ hk).1)
                          have K5 := K4.trans b8
                          have G5 := (hg8.block _ (Array.getElem?_eq_some_iff.1 G4).1 (fun e => by obtain ⟨cu, hcu⟩ := O4.type e.symm; rw [G4] at hcu; simp at hcu)).trans G4
                          have T5 : _ ∧ _ ∧ _ ∧ _ := ⟨cellBelow b8 (by omega) T4.1, cellBelow b8 (by omega) T4.2.1, cellBelow b8 (by omega) T4.2.2.1, cellBelow b8 (by omega) T4.2.2.2⟩
                          refine hK.out _ _ (T5) (fun hHeld => ?_)
                          clear hK K
                          try simp only [Act.put, List.setIfInBounds_toArray, List.set_cons_zero, List.set_cons_succ]
                          refine takeU (i := 9) (v := ?v12) rfl (by kernel_rfl) (fun _ _ _ h => h) (Or.inl ⟨by rfl, ?hy12⟩) (by assumption) ?rest12
                          case hy12 => (intro w hSw; (try dsimp only at hSw); (first | (go_simp; done) | (go_simp; with_reducible rfl)))
                          case rest12 =>
                            try simp only [Act.put, List.setIfInBounds_toArray, List.set_cons_zero, List.set_cons_succ]
                            refine wpAnyU_ready (rs := [11]) (by kernel_rfl) (by simp) ?_
                            refine lastU rfl (fun K hK => ?_)
                            have c0 : (w8).cell? ⟨wr.heap.size + 1, 0, none⟩ = some (.int .i64 0) := (cell_of_row _ _ 0 _ _ _ G5).trans rfl
                            have c1 : (w8).cell? ⟨wr.heap.size + 1, 1, none⟩ = some (.slice none 0 0) := (cell_of_row _ _ 1 _ _ _ G5).trans rfl
                            have f0 : (w8).frozen? ⟨wr.heap.size + 1, 0, none⟩ = false := frozen_of_row _ _ 0 _ _ G5
                            have f1 : (w8).frozen? ⟨wr.heap.size + 1, 1, none⟩ = false := frozen_of_row _ _ 1 _ _ G5
                            go_simp
                            refine hK.out _ _ ?_
                            clear hK K
                            try simp only [Act.put, List.setIfInBounds_toArray, List.set_cons_zero, List.set_cons_succ]
                            refine wpAnyU_done (by kernel_rfl) ?_ _
                            exact cont _ _ _ _ _ _ _ _ _ _ _ _ _ _ _ _ _ _ _ _ _ _ _ _ _ _ _ _ _ _ _ _ _ _ _ _ _ _ _ _ _ _ _ _ _ _ _ _ _ _ _ ((K5.setCell NG _).setCell NG _) ((cell_set_ne _ (Or.inr (by decide))).trans (cell_set_eq _ c0)) (cell_two' c1 _ _) (by rw [ruls_snoc]; exact (hown8.stored2 G5 (by decide) _ _).own.rd)
                        exact AllU.nil
                      exact AllU.nil
                    refine consU rfl (fun K hK => ?_) ?_
                    · go_simp
                      have K3 := K2.trans ((ref_al _ (.cells #[.string ⟨rl.toArray⟩, .string ⟨rr.toArray⟩] 84)).mono K2.size)
                      have T3 : _ ∧ _ ∧ _ ∧ _ := ⟨cellKeep (ref_al _ (.cells #[.string ⟨rl.toArray⟩, .string ⟨rr.toArray⟩] 84)) T2.1, cellKeep (ref_al _ (.cells #[.string ⟨rl.toArray⟩, .string ⟨rr.toArray⟩] 84)) T2.2.1, cellKeep (ref_al _ (.cells #[.string ⟨rl.toArray⟩, .string ⟨rr.toArray⟩] 84)) T2.2.2.1, cellKeep (ref_al _ (.cells #[.string ⟨rl.toArray⟩, .string ⟨rr.toArray⟩] 84)) T2.2.2.2⟩
                      have RL3 := RL2.below (ref_al _ (.cells #[.string ⟨rl.toArray⟩, .string ⟨rr.toArray⟩] 84))
                      have G3 := ((ref_al _ (.cells #[.string ⟨rl.toArray⟩, .string ⟨rr.toArray⟩] 84)).block _ (Array.getElem?_eq_some_iff.1 G2).1).trans G2
                      have RX3 : Rd ((((wr.drew.alloc (.cells #[] 84)).alloc (.cells #[.int .i64 0, .slice none 0 0] 28)).alloc (.cells #[.string ⟨rl.toArray⟩, .string ⟨rr.toArray⟩] 84))) 2 (some ⟨wr.heap.size + 2, 0, none⟩) 1 (ruleCells ⟨rl, rr⟩) := by rw [show wr.heap.size + 2 = (((wr.drew.alloc (.cells #[] 84)).alloc (.cells #[.int .i64 0, .slice none 0 0] 28))).heap.size by simp]; exact rd_lit _ ⟨rl, rr⟩ _
                      refine hK.out _ _ (T3) (fun hHeld => ?_)
                      clear hK K
                      try simp only [Act.put, List.setIfInBounds_toArray, List.set_cons_zero, List.set_cons_succ]
                      refine wpAnyU_ready (rs := [5]) (by kernel_rfl) (by simp) ?_
                      refine consU rfl (fun K hK => ?_) ?_
                      · refine step_from_lit rfl (.tmp 45) (.tmp 47) rfl slRule rfl rfl RL3 hok (by omega) ?_
                        intro A5 c5 w5 hown5 hb5
                        have O0 := hown5.mono (base' := wr.heap.size) (by have := K3.size; first | (simp; done) | (simp at this ⊢; omega))
                        have K4 := K3.trans (hb5.mono K3.size)
                        have T4 : _ ∧ _ ∧ _ ∧ _ := ⟨cellKeep hb5 T3.1, cellKeep hb5 T3.2.1, cellKeep hb5 T3.2.2.1, cellKeep hb5 T3.2.2.2⟩
                        have RL4 := RL3.below hb5
                        have RX4 := RX3.below hb5
                        have G4 := (hb5.block _ (Array.getElem?_eq_some_iff.1 G3).1).trans G3
                        refine hK.out _ _ (T4) (fun hHeld => ?_)
                        clear hK K
                        try simp only [Act.put, List.setIfInBounds_toArray, List.set_cons_zero, List.set_cons_succ]
                        refine wpAnyU_ready (rs := [8]) (by kernel_rfl) (by simp) ?_
                        refine consU rfl (fun K hK => ?_) ?_
                        · refine step_push_off rfl (.tmp 48) (.tmp 50) rfl slRule rfl O0 rfl RX4 (ruleCells_one ⟨rl, rr⟩) (by have := K4.size; simpa using this) (by omega) ?_
                          intro A8 c8 w8 hown8 hg8 hat8
                          have b8 := (Below.refl wr.heap.size _).grown hg8 (by have := K4.size; simpa using this) (fun _ hk => (O0.lt _ hk).1)
                          have K5 := K4.trans b8
                          have G5 := (hg8.block _ (Array.getElem?_eq_some_iff.1 G4).1 (fun e => by obtain ⟨cu, hcu⟩ := O0.type e.symm; rw [G4] at hcu; simp at hcu)).trans G4
                          have T5 : _ ∧ _ ∧ _ ∧ _ := ⟨cellBelow b8 (by omega) T4.1, cellBelow b8 (by omega) T4.2.1, cellBelow b8 (by omega) T4.2.2.1, cellBelow b8 (by omega) T4.2.2.2⟩
                          refine hK.out _ _ (T5) (fun hHeld => ?_)
                          clear hK K
                          try simp only [Act.put, List.setIfInBounds_toArray, List.set_cons_zero, List.set_cons_succ]
                          refine takeU (i := 9) (v := ?v13) rfl (by kernel_rfl) (fun _ _ _ h => h) (Or.inl ⟨by rfl, ?hy13⟩) (by assumption) ?rest13
                          case hy13 => (intro w hSw; (try dsimp only at hSw); (first | (go_simp; done) | (go_simp; with_reducible rfl)))
                          case rest13 =>
                            try simp only [Act.put, List.setIfInBounds_toArray, List.set_cons_zero, List.set_cons_succ]
                            refine wpAnyU_ready (rs := [11]) (by kernel_rfl) (by simp) ?_
                            refine lastU rfl (fun K hK => ?_)
                            have c0 : (w8).cell? ⟨wr.heap.size + 1, 0, none⟩ = some (.int .i64 0) := (cell_of_row _ _ 0 _ _ _ G5).trans rfl
                            have c1 : (w8).cell? ⟨wr.heap.size + 1, 1, none⟩ = some (.slice none 0 0) := (cell_of_row _ _ 1 _ _ _ G5).trans rfl
                            have f0 : (w8).frozen? ⟨wr.heap.size + 1, 0, none⟩ = false := frozen_of_row _ _ 0 _ _ G5
                            have f1 : (w8).frozen? ⟨wr.heap.size + 1, 1, none⟩ = false := frozen_of_row _ _ 1 _ _ G5
                            go_simp
                            refine hK.out _ _ ?_
                            clear hK K
                            try simp only [Act.put, List.setIfInBounds_toArray, List.set_cons_zero, List.set_cons_succ]
                            refine wpAnyU_done (by kernel_rfl) ?_ _
                            exact cont _ _ _ _ _ _ _ _ _ _ _ _ _ _ _ _ _ _ _ _ _ _ _ _ _ _ _ _ _ _ _ _ _ _ _ _ _ _ _ _ _ _ _ _ _ _ _ _ _ _ _ ((K5.setCell NG _).setCell NG _) ((cell_set_ne _ (Or.inr (by decide))).trans (cell_set_eq _ c0)) (cell_two' c1 _ _) (by rw [ruls_snoc]; exact (hown8.stored2 G5 (by decide) _ _).own.rd)
                        exact AllU.nil
                      exact AllU.nil
                    exact AllU.nil
                  exact AllU.nil
                refine consU rfl (fun K hK => ?_) ?_
                · go_simp
                  have K1 := KD.trans ((ref_al _ (.cells #[.string ⟨rl.toArray⟩, .string ⟨rr.toArray⟩] 84)).mono KD.size)
                  have T1 : _ ∧ _ ∧ _ ∧ _ := ⟨cellKeep (ref_al _ (.cells #[.string ⟨rl.toArray⟩, .string ⟨rr.toArray⟩] 84)) TD.1, cellKeep (ref_al _ (.cells #[.string ⟨rl.toArray⟩, .string ⟨rr.toArray⟩] 84)) TD.2.1, cellKeep (ref_al _ (.cells #[.string ⟨rl.toArray⟩, .string ⟨rr.toArray⟩] 84)) TD.2.2.1, cellKeep (ref_al _ (.cells #[.string ⟨rl.toArray⟩, .string ⟨rr.toArray⟩] 84)) TD.2.2.2⟩
                  have RL1 := RL0.below (ref_al _ (.cells #[.string ⟨rl.toArray⟩, .string ⟨rr.toArray⟩] 84))
                  have RX1 : Rd ((wr.drew.alloc (.cells #[.string ⟨rl.toArray⟩, .string ⟨rr.toArray⟩] 84))) 2 (some ⟨wr.heap.size, 0, none⟩) 1 (ruleCells ⟨rl, rr⟩) := rd_lit _ ⟨rl, rr⟩ _
                  refine hK.out _ _ (T1) (fun hHeld => ?_)
                  clear hK K
                  try simp only [Act.put, List.setIfInBounds_toArray, List.set_cons_zero, List.set_cons_succ]
                  refine wpAnyU_ready (rs := [2, 10]) (by kernel_rfl) (by simp) ?_
                  refine consU rfl (fun K hK => ?_) ?_
                  · go_simp
                    have K2 := K1.trans ((ref_al _ (.cells #[] 84)).mono K1.size)
                    have T2 : _ ∧ _ ∧ _ ∧ _ := ⟨cellKeep (ref_al _ (.cells #[] 84)) T1.1, cellKeep (ref_al _ (.cells #[] 84)) T1.2.1, cellKeep (ref_al _ (.cells #[] 84)) T1.2.2.1, cellKeep (ref_al _ (.cells #[] 84)) T1.2.2.2⟩
                    have RL2 := RL1.below (ref_al _ (.cells #[] 84))
                    have RX2 := RX1.below (ref_al _ (.cells #[] 84))
                    refine hK.out _ _ (T2) (fun hHeld => ?_)
                    clear hK K
                    try simp only [Act.put, List.setIfInBounds_toArray, List.set_cons_zero, List.set_cons_succ]
                    refine wpAnyU_ready (rs := [5, 10]) (by kernel_rfl) (by simp) ?_
                    refine consU rfl (fun K hK => ?_) ?_
                    · refine step_from_lit rfl (.tmp 45) (.tmp 47) rfl slRule rfl rfl RL2 hok (by omega) ?_
                      intro A5 c5 w5 hown5 hb5
                      have O0 := hown5.mono (base' := wr.heap.size) (by have := K2.size; first | (simp; done) | (simp at this ⊢; omega))
                      have K3 := K2.trans (hb5.mono K2.size)
                      have T3 : _ ∧ _ ∧ _ ∧ _ := ⟨cellKeep hb5 T2.1, cellKeep hb5 T2.2.1, cellKeep hb5 T2.2.2.1, cellKeep hb5 T2.2.2.2⟩
                      have RL3 := RL2.below hb5
                      have RX3 := RX2.below hb5
                      refine hK.out _ _ (T3) (fun hHeld => ?_)
                      clear hK K
                      try simp only [Act.put, List.setIfInBounds_toArray, List.set_cons_zero, List.set_cons_succ]
                      refine wpAnyU_ready (rs := [8, 10]) (by kernel_rfl) (by simp) ?_
                      refine consU rfl (fun K hK => ?_) ?_
                      · refine step_push_off rfl (.tmp 48) (.tmp 50) rfl slRule rfl O0 rfl RX3 (ruleCells_one ⟨rl, rr⟩) (by have := K3.size; simpa using this) (by omega) ?_
                        intro A8 c8 w8 hown8 hg8 hat8
                        have b8 := (Below.refl wr.heap.size _).grown hg8 (by have := K3.size; simpa using this) (fun _ hk => (O0.lt _ hk).1)
                        have K4 := K3.trans b8
                        have T4 : _ ∧ _ ∧ _ ∧ _ := ⟨cellBelow b8 (by omega) T3.1, cellBelow b8 (by omega) T3.2.1, cellBelow b8 (by omega) T3.2.2.1, cellBelow b8 (by omega) T3.2.2.2⟩
                        refine hK.out _ _ (T4) (fun hHeld => ?_)
                        clear hK K
                        try simp only [Act.put, List.setIfInBounds_toArray, List.set_cons_zero, List.set_cons_succ]
                        refine takeU (i := 9) (v := ?v14) rfl (by kernel_rfl) (fun _ _ _ h => h) (Or.inl ⟨by rfl, ?hy14⟩) (by assumption) ?rest14
                        case hy14 => (intro w hSw; (try dsimp only at hSw); (first | (go_simp; done) | (go_simp; with_reducible rfl)))
                        case rest14 =>
                          try simp only [Act.put, List.setIfInBounds_toArray, List.set_cons_zero, List.set_cons_succ]
                          refine wpAnyU_ready (rs := [10]) (by kernel_rfl) (by simp) ?_
                          refine consU rfl (fun K hK => ?_) ?_
                          · go_simp
                            have K5 := K4.trans ((ref_al _ (.cells #[.int .i64 0, .slice none 0 0] 28)).mono K4.size)
                            have T5 : _ ∧ _ ∧ _ ∧ _ := ⟨cellKeep (ref_al _ (.cells #[.int .i64 0, .slice none 0 0] 28)) T4.1, cellKeep (ref_al _ (.cells #[.int .i64 0, .slice none 0 0] 28)) T4.2.1, cellKeep (ref_al _ (.cells #[.int .i64 0, .slice none 0 0] 28)) T4.2.2.1, cellKeep (ref_al _ (.cells #[.int .i64 0, .slice none 0 0] 28)) T4.2.2.2⟩
                            have O5 := hown8.below (ref_al _ (.cells #[.int .i64 0, .slice none 0 0] 28))
                            have NG : wr.heap.size ≤ w8.heap.size := by have := K4.size; first | omega | (simp at this ⊢; omega)
                            have G5 : ((w8.alloc (.cells #[.int .i64 0, .slice none 0 0] 28))).heap[w8.heap.size]? = some (.cells #[.int .i64 0, .slice none 0 0] 28 (0, 0)) := heap_alloc_new _ _
                            refine hK.out _ _ (T5) (fun hHeld => ?_)
                            clear hK K
                            try simp only [Act.put, List.setIfInBounds_toArray, List.set_cons_zero, List.set_cons_succ]
                            refine wpAnyU_ready (rs := [11]) (by kernel_rfl) (by simp) ?_
                            refine lastU rfl (fun K hK => ?_)
                            have c0 : ((w8.alloc (.cells #[.int .i64 0, .slice none 0 0] 28))).cell? ⟨w8.heap.size, 0, none⟩ = some (.int .i64 0) := (cell_of_row _ _ 0 _ _ _ G5).trans rfl
                            have c1 : ((w8.alloc (.cells #[.int .i64 0, .slice none 0 0] 28))).cell? ⟨w8.heap.size, 1, none⟩ = some (.slice none 0 0) := (cell_of_row _ _ 1 _ _ _ G5).trans rfl
                            have f0 : ((w8.alloc (.cells #[.int .i64 0, .slice none 0 0] 28))).frozen? ⟨w8.heap.size, 0, none⟩ = false := frozen_of_row _ _ 0 _ _ G5
                            have f1 : ((w8.alloc (.cells #[.int .i64 0, .slice none 0 0] 28))).frozen? ⟨w8.heap.size, 1, none⟩ = false := frozen_of_row _ _ 1 _ _ G5
                            go_simp
                            refine hK.out _ _ ?_
                            clear hK K
                            try simp only [Act.put, List.setIfInBounds_toArray, List.set_cons_zero, List.set_cons_succ]
                            refine wpAnyU_done (by kernel_rfl) ?_ _
                            exact cont _ _ A8 c8 _ _ _ _ _ _ _ _ _ _ _ _ _ _ _ _ _ _ _ _ _ _ _ _ _ _ _ _ _ _ _ _ _ _ _ _ _ _ _ _ _ _ _ _ _ _ _ (K4.alloc NG _) (by simp [go_sem]) (by simp [go_sem]) (by rw [ruls_snoc]; exact (hown8.below (ref_al _ _)).own.rd)
                          exact AllU.nil
                      refine consU rfl (fun K hK => ?_) ?_
                      · go_simp
                        have K4 := K3.trans ((ref_al _ (.cells #[.int .i64 0, .slice none 0 0] 28)).mono K3.size)
                        have T4 : _ ∧ _ ∧ _ ∧ _ := ⟨cellKeep (ref_al _ (.cells #[.int .i64 0, .slice none 0 0] 28)) T3.1, cellKeep (ref_al _ (.cells #[.int .i64 0, .slice none 0 0] 28)) T3.2.1, cellKeep (ref_al _ (.cells #[.int .i64 0, .slice none 0 0] 28)) T3.2.2.1, cellKeep (ref_al _ (.cells #[.int .i64 0, .slice none 0 0] 28)) T3.2.2.2⟩
                        have RL4 := RL3.below (ref_al _ (.cells #[.int .i64 0, .slice none 0 0] 28))
                        have O4 := O0.below (ref_al _ (.cells #[.int .i64 0, .slice none 0 0] 28))
                        have RX4 := RX3.below (ref_al _ (.cells #[.int .i64 0, .slice none 0 0] 28))
                        have NG : wr.heap.size ≤ w5.heap.size := by have := K3.size; first | omega | (simp at this ⊢; omega)
                        have G4 : ((w5.alloc (.cells #[.int .i64 0, .slice none 0 0] 28))).heap[w5.heap.size]? = some (.cells #[.int .i64 0, .slice none 0 0] 28 (0, 0)) := heap_alloc_new _ _
                        refine hK.out _ _ (T4) (fun hHeld => ?_)
                        clear hK K
                        try simp only [Act.put, List.setIfInBounds_toArray, List.set_cons_zero, List.set_cons_succ]
                        refine wpAnyU_ready (rs := [8]) (by kernel_rfl) (by simp) ?_
                        refine consU rfl (fun K hK => ?_) ?_
                        · refine step_push_off rfl (.tmp 48) (.tmp 50) rfl slRule rfl O4 rfl RX4 (ruleCells_one ⟨rl, rr⟩) (by have := K4.size; simpa using this) (by omega) ?_
                          intro A8 c8 w8 hown8 hg8 hat8
                          have b8 := (Below.refl wr.heap.size _).grown hg8 (by have := K4.size; simpa using this) (fun _ hk => (O4.lt _ hk).1)
                          have K5 := K4.trans b8
                          have G5 := (hg8.block _ (Array.getElem?_eq_some_iff.1 G4).1 (fun e => by obtain ⟨cu, hcu⟩ := O4.type e.symm; rw [G4] at hcu; simp at hcu)).trans G4
                          have T5 : _ ∧ _ ∧ _ ∧ _ := ⟨cellBelow b8 (by omega) T4.1, cellBelow b8 (by omega) T4.2.1, cellBelow b8 (by omega) T4.2.2.1, cellBelow b8 (by omega) T4.2.2.2⟩
                          refine hK.out _ _ (T5) (fun hHeld => ?_)
                          clear hK K
                          try simp only [Act.put, List.setIfInBounds_toArray, List.set_cons_zero, List.set_cons_succ]
                          refine takeU (i := 9) (v := ?v15) rfl (by kernel_rfl) (fun _ _ _ h => h) (Or.inl ⟨by rfl, ?hy15⟩) (by assumption) ?rest15
                          case hy15 => (intro w hSw; (try dsimp only at hSw); (first | (go_simp; done) | (go_simp; with_reducible rfl)))
                          case rest15 =>
                            try simp only [Act.put, List.setIfInBounds_toArray, List.set_cons_zero, List.set_cons_succ]
                            refine wpAnyU_ready (rs := [11]) (by kernel_rfl) (by simp) ?_
                            refine lastU rfl (fun K hK => ?_)
                            have c0 : (w8).cell? ⟨w5.heap.size, 0, none⟩ = some (.int .i64 0) := (cell_of_row _ _ 0 _ _ _ G5).trans rfl
                            have c1 : (w8).cell? ⟨w5.heap.size, 1, none⟩ = some (.slice none 0 0) := (cell_of_row _ _ 1 _ _ _ G5).trans rfl
                            have f0 : (w8).frozen? ⟨w5.heap.size, 0, none⟩ = false := frozen_of_row _ _ 0 _ _ G5
                            have f1 : (w8).frozen? ⟨w5.heap.size, 1, none⟩ = false := frozen_of_row _ _ 1 _ _ G5
                            go_simp
                            refine hK.out _ _ ?_
                            clear hK K
                            try simp only [Act.put, List.setIfInBounds_toArray, List.set_cons_zero, List.set_cons_succ]
                            refine wpAnyU_done (by kernel_rfl) ?_ _
                            exact cont _ _ _ _ _ _ _ _ _ _ _ _ _ _ _ _ _ _ _ _ _ _ _ _ _ _ _ _ _ _ _ _ _ _ _ _ _ _ _ _ _ _ _ _ _ _ _ _ _ _ _ ((K5.setCell NG _).setCell NG _) ((cell_set_ne _ (Or.inr (by decide))).trans (cell_set_eq _ c0)) (cell_two' c1 _ _) (by rw [ruls_snoc]; exact (hown8.stored2 G5 (by decide) _ _).own.rd)
                        exact AllU.nil
                      exact AllU.nil
                    refine consU rfl (fun K hK => ?_) ?_
                    · go_simp
                      have K3 := K2.trans ((ref_al _ (.cells #[.int .i64 0, .slice none 0 0] 28)).mono K2.size)
                      have T3 : _ ∧ _ ∧ _ ∧ _ := ⟨cellKeep (ref_al _ (.cells #[.int .i64 0, .slice none 0 0] 28)) T2.1, cellKeep (ref_al _ (.cells #[.int .i64 0, .slice none 0 0] 28)) T2.2.1, cellKeep (ref_al _ (.cells #[.int .i64 0, .slice none 0 0] 28)) T2.2.2.1, cellKeep (ref_al _ (.cells #[.int .i64 0, .slice none 0 0] 28)) T2.2.2.2⟩
                      have RL3 := RL2.below (ref_al _ (.cells #[.int .i64 0, .slice none 0 0] 28))
                      have RX3 := RX2.below (ref_al _ (.cells #[.int .i64 0, .slice none 0 0] 28))
                      have NG : wr.heap.size ≤ wr.heap.size + 2 := by have := K2.size; first | omega | (simp at this ⊢; omega)
                      have G3 : ((((wr.drew.alloc (.cells #[.string ⟨rl.toArray⟩, .string ⟨rr.toArray⟩] 84)).alloc (.cells #[] 84)).alloc (.cells #[.int .i64 0, .slice none 0 0] 28))).heap[wr.heap.size + 2]? = some (.cells #[.int .i64 0, .slice none 0 0] 28 (0, 0)) := by rw [show wr.heap.size + 2 = (((wr.drew.alloc (.cells #[.string ⟨rl.toArray⟩, .string ⟨rr.toArray⟩] 84)).alloc (.cells #[] 84))).heap.size by simp]; exact heap_alloc_new _ _
                      refine hK.out _ _ (T3) (fun hHeld => ?_)
                      clear hK K
                      try simp only [Act.put, List.setIfInBounds_toArray, List.set_cons_zero, List.set_cons_succ]
                      refine wpAnyU_ready (rs := [5]) (by kernel_rfl) (by simp) ?_
                      refine consU rfl (fun K hK => ?_) ?_
                      · refine step_from_lit rfl (.tmp 45) (.tmp 47) rfl slRule rfl rfl RL3 hok (by omega) ?_
                        intro A5 c5 w5 hown5 hb5
                        have O0 := hown5.mono (base' := wr.heap.size) (by have := K3.size; first | (simp; done) | (simp at this ⊢; omega))
                        have K4 := K3.trans (hb5.mono K3.size)
                        have T4 : _ ∧ _ ∧ _ ∧ _ := ⟨cellKeep hb5 T3.1, cellKeep hb5 T3.2.1, cellKeep hb5 T3.2.2.1, cellKeep hb5 T3.2.2.2⟩
                        have RL4 := RL3.below hb5
                        have RX4 := RX3.below hb5
                        have G4 := (hb5.block _ (Array.getElem?_eq_some_iff.1 G3).1).trans G3
                        refine hK.out _ _ (T4) (fun hHeld => ?_)
                        clear hK K
                        try simp only [Act.put, List.setIfInBounds_toArray, List.set_cons_zero, List.set_cons_succ]
                        refine wpAnyU_ready (rs := [8]) (by kernel_rfl) (by simp) ?_
                        refine consU rfl (fun K hK => ?_) ?_
                        · refine step_push_off rfl (.tmp 48) (.tmp 50) rfl slRule rfl O0 rfl RX4 (ruleCells_one ⟨rl, rr⟩) (by have := K4.size; simpa using this) (by omega) ?_
                          intro A8 c8 w8 hown8 hg8 hat8
                          have b8 := (Below.refl wr.heap.size _).grown hg8 (by have := K4.size; simpa using this) (fun _ hk => (O0.lt _ hk).1)
                          have K5 := K4.trans b8
                          have G5 := (hg8.block _ (Array.getElem?_eq_some_iff.1 G4).1 (fun e => by obtain ⟨cu, hcu⟩ := O0.type e.symm; rw [G4] at hcu; simp at hcu)).trans G4
                          have T5 : _ ∧ _ ∧ _ ∧ _ := ⟨cellBelow b8 (by omega) T4.1, cellBelow b8 (by omega) T4.2.1, cellBelow b8 (by omega) T4.2.2.1, cellBelow b8 (by omega) T4.2.2.2⟩
                          refine hK.out _ _ (T5) (fun hHeld => ?_)
                          clear hK K
                          try simp only [Act.put, List.setIfInBounds_toArray, List.set_cons_zero, List.set_cons_succ]
                          refine takeU (i := 9) (v := ?v16) rfl (by kernel_rfl) (fun _ _ _ h => h) (Or.inl ⟨by rfl, ?hy16⟩) (by assumption) ?rest16
                          case hy16 => (intro w hSw; (try dsimp only at hSw); (first | (go_simp; done) | (go_simp; with_reducible rfl)))
                          case rest16 =>
                            try simp only [Act.put, List.setIfInBounds_toArray, List.set_cons_zero, List.set_cons_succ]
                            refine wpAnyU_ready (rs := [11]) (by kernel_rfl) (by simp) ?_
                            refine lastU rfl (fun K hK => ?_)
                            have c0 : (w8).cell? ⟨wr.heap.size + 2, 0, none⟩ = some (.int .i64 0) := (cell_of_row _ _ 0 _ _ _ G5).trans rfl
                            have c1 : (w8).cell? ⟨wr.heap.size + 2, 1, none⟩ = some (.slice none 0 0) := (cell_of_row _ _ 1 _ _ _ G5).trans rfl
                            have f0 : (w8).frozen? ⟨wr.heap.size + 2, 0, none⟩ = false := frozen_of_row _ _ 0 _ _ G5
                            have f1 : (w8).frozen? ⟨wr.heap.size + 2, 1, none⟩ = false := frozen_of_row _ _ 1 _ _ G5
                            go_simp
                            refine hK.out _ _ ?_
                            clear hK K
                            try simp only [Act.put, List.setIfInBounds_toArray, List.set_cons_zero, List.set_cons_succ]
                            refine wpAnyU_done (by kernel_rfl) ?_ _
                            exact cont _ _ _ _ _ _ _ _ _ _ _ _ _ _ _ _ _ _ _ _ _ _ _ _ _ _ _ _ _ _ _ _ _ _ _ _ _ _ _ _ _ _ _ _ _ _ _ _ _ _ _ ((K5.setCell NG _).setCell NG _) ((cell_set_ne _ (Or.inr (by decide))).trans (cell_set_eq _ c0)) (cell_two' c1 _ _) (by rw [ruls_snoc]; exact (hown8.stored2 G5 (by decide) _ _).own.rd)
                        exact AllU.nil
                      exact AllU.nil
                    exact AllU.nil
                  refine consU rfl (fun K hK => ?_) ?_
                  · go_simp
                    have K2 := K1.trans ((ref_al _ (.cells #[.int .i64 0, .slice none 0 0] 28)).mono K1.size)
                    have T2 : _ ∧ _ ∧ _ ∧ _ := ⟨cellKeep (ref_al _ (.cells #[.int .i64 0, .slice none 0 0] 28)) T1.1, cellKeep (ref_al _ (.cells #[.int .i64 0, .slice none 0 0] 28)) T1.2.1, cellKeep (ref_al _ (.cells #[.int .i64 0, .slice none 0 0] 28)) T1.2.2.1, cellKeep (ref_al _ (.cells #[.int .i64 0, .slice none 0 0] 28)) T1.2.2.2⟩
                    have RL2 := RL1.below (ref_al _ (.cells #[.int .i64 0, .slice none 0 0] 28))
                    have RX2 := RX1.below (ref_al _ (.cells #[.int .i64 0, .slice none 0 0] 28))
                    have NG : wr.heap.size ≤ wr.heap.size + 1 := by have := K1.size; first | omega | (simp at this ⊢; omega)
                    have G2 : (((wr.drew.alloc (.cells #[.string ⟨rl.toArray⟩, .string ⟨rr.toArray⟩] 84)).alloc (.cells #[.int .i64 0, .slice none 0 0] 28))).heap[wr.heap.size + 1]? = some (.cells #[.int .i64 0, .slice none 0 0] 28 (0, 0)) := by rw [show wr.heap.size + 1 = ((wr.drew.alloc (.cells #[.string ⟨rl.toArray⟩, .string ⟨rr.toArray⟩] 84))).heap.size by simp]; exact heap_alloc_new _ _
                    refine hK.out _ _ (T2) (fun hHeld => ?_)
                    clear hK K
                    try simp only [Act.put, List.setIfInBounds_toArray, List.set_cons_zero, List.set_cons_succ]
                    refine wpAnyU_ready (rs := [2]) (by kernel_rfl) (by simp) ?_
                    refine consU rfl (fun K hK => ?_) ?_
                    · go_simp
                      have K3 := K2.trans ((ref_al _ (.cells #[] 84)).mono K2.size)
                      have T3 : _ ∧ _ ∧ _ ∧ _ := ⟨cellKeep (ref_al _ (.cells #[] 84)) T2.1, cellKeep (ref_al _ (.cells #[] 84)) T2.2.1, cellKeep (ref_al _ (.cells #[] 84)) T2.2.2.1, cellKeep (ref_al _ (.cells #[] 84)) T2.2.2.2⟩
                      have RL3 := RL2.below (ref_al _ (.cells #[] 84))
                      have RX3 := RX2.below (ref_al _ (.cells #[] 84))
                      have G3 := ((ref_al _ (.cells #[] 84)).block _ (Array.getElem?_eq_some_iff.1 G2).1).trans G2
                      refine hK.out _ _ (T3) (fun hHeld => ?_)
                      clear hK K
                      try simp only [Act.put, List.setIfInBounds_toArray, List.set_cons_zero, List.set_cons_succ]
                      refine wpAnyU_ready (rs := [5]) (by kernel_rfl) (by simp) ?_
                      refine consU rfl (fun K hK => ?_) ?_
                      · refine step_from_lit rfl (.tmp 45) (.tmp 47) rfl slRule rfl rfl RL3 hok (by omega) ?_
                        intro A5 c5 w5 hown5 hb5
                        have O0 := hown5.mono (base' := wr.heap.size) (by have := K3.size; first | (simp; done) | (simp at this ⊢; omega))
                        have K4 := K3.trans (hb5.mono K3.size)
                        have T4 : _ ∧ _ ∧ _ ∧ _ := ⟨cellKeep hb5 T3.1, cellKeep hb5 T3.2.1, cellKeep hb5 T3.2.2.1, cellKeep hb5 T3.2.2.2⟩
                        have RL4 := RL3.below hb5
                        have RX4 := RX3.below hb5
                        have G4 := (hb5.block _ (Array.getElem?_eq_some_iff.1 G3).1).trans G3
                        refine hK.out _ _ (T4) (fun hHeld => ?_)
                        clear hK K
                        try simp only [Act.put, List.setIfInBounds_toArray, List.set_cons_zero, List.set_cons_succ]
                        refine wpAnyU_ready (rs := [8]) (by kernel_rfl) (by simp) ?_
                        refine consU rfl (fun K hK => ?_) ?_
                        · refine step_push_off rfl (.tmp 48) (.tmp 50) rfl slRule rfl O0 rfl RX4 (ruleCells_one ⟨rl, rr⟩) (by have := K4.size; simpa using this) (by omega) ?_
                          intro A8 c8 w8 hown8 hg8 hat8
                          have b8 := (Below.refl wr.heap.size _).grown hg8 (by have := K4.size; simpa using this) (fun _ hk => (O0.lt _ hk).1)
                          have K5 := K4.trans b8
                          have G5 := (hg8.block _ (Array.getElem?_eq_some_iff.1 G4).1 (fun e => by obtain ⟨cu, hcu⟩ := O0.type e.symm; rw [G4] at hcu; simp at hcu)).trans G4
                          have T5 : _ ∧ _ ∧ _ ∧ _ := ⟨cellBelow b8 (by omega) T4.1, cellBelow b8 (by omega) T4.2.1, cellBelow b8 (by omega) T4.2.2.1, cellBelow b8 (by omega) T4.2.2.2⟩
                          refine hK.out _ _ (T5) (fun hHeld => ?_)
                          clear hK K
                          try simp only [Act.put, List.setIfInBounds_toArray, List.set_cons_zero, List.set_cons_succ]
                          refine takeU (i := 9) (v := ?v17) rfl (by kernel_rfl) (fun _ _ _ h => h) (Or.inl ⟨by rfl, ?hy17⟩) (by assumption) ?rest17
                          case hy17 => (intro w hSw; (try dsimp only at hSw); (first | (go_simp; done) | (go_simp; with_reducible rfl)))
                          case rest17 =>
                            try simp only [Act.put, List.setIfInBounds_toArray, List.set_cons_zero, List.set_cons_succ]
                            refine wpAnyU_ready (rs := [11]) (by kernel_rfl) (by simp) ?_
                            refine lastU rfl (fun K hK => ?_)
                            have c0 : (w8).cell? ⟨wr.heap.size + 1, 0, none⟩ = some (.int .i64 0) := (cell_of_row _ _ 0 _ _ _ G5).trans rfl
                            have c1 : (w8).cell? ⟨wr.heap.size + 1, 1, none⟩ = some (.slice none 0 0) := (cell_of_row _ _ 1 _ _ _ G5).trans rfl
                            have f0 : (w8).frozen? ⟨wr.heap.size + 1, 0, none⟩ = false := frozen_of_row _ _ 0 _ _ G5
                            have f1 : (w8).frozen? ⟨wr.heap.size + 1, 1, none⟩ = false := frozen_of_row _ _ 1 _ _ G5
                            go_simp
                            refine hK.out _ _ ?_
                            clear hK K
                            try simp only [Act.put, List.setIfInBounds_toArray, List.set_cons_zero, List.set_cons_succ]
                            refine wpAnyU_done (by kernel_rfl) ?_ _
                            exact cont _ _ _ _ _ _ _ _ _ _ _ _ _ _ _ _ _ _ _ _ _ _ _ _ _ _ _ _ _ _ _ _ _ _ _ _ _ _ _ _ _ _ _ _ _ _ _ _ _ _ _ ((K5.setCell NG _).setCell NG _) ((cell_set_ne _ (Or.inr (by decide))).trans (cell_set_eq _ c0)) (cell_two' c1 _ _) (by rw [ruls_snoc]; exact (hown8.stored2 G5 (by decide) _ _).own.rd)
                        exact AllU.nil
                      exact AllU.nil
                    exact AllU.nil
                  exact AllU.nil
                refine consU rfl (fun K hK => ?_) ?_
                · go_simp
                  have K1 := KD.trans ((ref_al _ (.cells #[.int .i64 0, .slice none 0 0] 28)).mono KD.size)
                  have T1 : _ ∧ _ ∧ _ ∧ _ := ⟨cellKeep (ref_al _ (.cells #[.int .i64 0, .slice none 0 0] 28)) TD.1, cellKeep (ref_al _ (.cells #[.int .i64 0, .slice none 0 0] 28)) TD.2.1, cellKeep (ref_al _ (.cells #[.int .i64 0, .slice none 0 0] 28)) TD.2.2.1, cellKeep (ref_al _ (.cells #[.int .i64 0, .slice none 0 0] 28)) TD.2.2.2⟩
                  have RL1 := RL0.below (ref_al _ (.cells #[.int .i64 0, .slice none 0 0] 28))
                  have NG : wr.heap.size ≤ wr.heap.size := by have := KD.size; first | omega | (simp at this ⊢; omega)
                  have G1 : ((wr.drew.alloc (.cells #[.int .i64 0, .slice none 0 0] 28))).heap[wr.heap.size]? = some (.cells #[.int .i64 0, .slice none 0 0] 28 (0, 0)) := heap_alloc_new _ _
                  refine hK.out _ _ (T1) (fun hHeld => ?_)
                  clear hK K
                  try simp only [Act.put, List.setIfInBounds_toArray, List.set_cons_zero, List.set_cons_succ]
                  refine wpAnyU_ready (rs := [2, 7]) (by kernel_rfl) (by simp) ?_
                  refine consU rfl (fun K hK => ?_) ?_
                  · go_simp
                    have K2 := K1.trans ((ref_al _ (.cells #[] 84)).mono K1.size)
                    have T2 : _ ∧ _ ∧ _ ∧ _ := ⟨cellKeep (ref_al _ (.cells #[] 84)) T1.1, cellKeep (ref_al _ (.cells #[] 84)) T1.2.1, cellKeep (ref_al _ (.cells #[] 84)) T1.2.2.1, cellKeep (ref_al _ (.cells #[] 84)) T1.2.2.2⟩
                    have RL2 := RL1.below (ref_al _ (.cells #[] 84))
                    have G2 := ((ref_al _ (.cells #[] 84)).block _ (Array.getElem?_eq_some_iff.1 G1).1).trans G1
                    refine hK.out _ _ (T2) (fun hHeld => ?_)
                    clear hK K
                    try simp only [Act.put, List.setIfInBounds_toArray, List.set_cons_zero, List.set_cons_succ]
                    refine wpAnyU_ready (rs := [5, 7]) (by kernel_rfl) (by simp) ?_
                    refine consU rfl (fun K hK => ?_) ?_
                    · refine step_from_lit rfl (.tmp 45) (.tmp 47) rfl slRule rfl rfl RL2 hok (by omega) ?_
                      intro A5 c5 w5 hown5 hb5
                      have O0 := hown5.mono (base' := wr.heap.size) (by have := K2.size; first | (simp; done) | (simp at this ⊢; omega))
                      have K3 := K2.trans (hb5.mono K2.size)
                      have T3 : _ ∧ _ ∧ _ ∧ _ := ⟨cellKeep hb5 T2.1, cellKeep hb5 T2.2.1, cellKeep hb5 T2.2.2.1, cellKeep hb5 T2.2.2.2⟩
                      have RL3 := RL2.below hb5
                      have G3 := (hb5.block _ (Array.getElem?_eq_some_iff.1 G2).1).trans G2
                      refine hK.out _ _ (T3) (fun hHeld => ?_)
                      clear hK K
                      try simp only [Act.put, List.setIfInBounds_toArray, List.set_cons_zero, List.set_cons_succ]
                      refine wpAnyU_ready (rs := [7]) (by kernel_rfl) (by simp) ?_
                      refine consU rfl (fun K hK => ?_) ?_
                      · go_simp
                        have K4 := K3.trans ((ref_al _ (.cells #[.string ⟨rl.toArray⟩, .string ⟨rr.toArray⟩] 84)).mono K3.size)
                        have T4 : _ ∧ _ ∧ _ ∧ _ := ⟨cellKeep (ref_al _ (.cells #[.string ⟨rl.toArray⟩, .string ⟨rr.toArray⟩] 84)) T3.1, cellKeep (ref_al _ (.cells #[.string ⟨rl.toArray⟩, .string ⟨rr.toArray⟩] 84)) T3.2.1, cellKeep (ref_al _ (.cells #[.string ⟨rl.toArray⟩, .string ⟨rr.toArray⟩] 84)) T3.2.2.1, cellKeep (ref_al _ (.cells #[.string ⟨rl.toArray⟩, .string ⟨rr.toArray⟩] 84)) T3.2.2.2⟩
                        have RL4 := RL3.below (ref_al _ (.cells #[.string ⟨rl.toArray⟩, .string ⟨rr.toArray⟩] 84))
                        have O4 := O0.below (ref_al _ (.cells #[.string ⟨rl.toArray⟩, .string ⟨rr.toArray⟩] 84))
                        have G4 := ((ref_al _ (.cells #[.string ⟨rl.toArray⟩, .string ⟨rr.toArray⟩] 84)).block _ (Array.getElem?_eq_some_iff.1 G3).1).trans G3
                        have RX4 : Rd ((w5.alloc (.cells #[.string ⟨rl.toArray⟩, .string ⟨rr.toArray⟩] 84))) 2 (some ⟨w5.heap.size, 0, none⟩) 1 (ruleCells ⟨rl, rr⟩) := rd_lit _ ⟨rl, rr⟩ _
                        refine hK.out _ _ (T4) (fun hHeld => ?_)
                        clear hK K
                        try simp only [Act.put, List.setIfInBounds_toArray, List.set_cons_zero, List.set_cons_succ]
                        refine wpAnyU_ready (rs := [8]) (by kernel_rfl) (by simp) ?_
                        refine consU rfl (fun K hK => ?_) ?_
                        · refine step_push_off rfl (.tmp 48) (.tmp 50) rfl slRule rfl O4 rfl RX4 (ruleCells_one ⟨rl, rr⟩) (by have := K4.size; simpa using this) (by omega) ?_
                          intro A8 c8 w8 hown8 hg8 hat8
                          have b8 := (Below.refl wr.heap.size _).grown hg8 (by have := K4.size; simpa using this) (fun _ hk => (O4.lt _ hk).1)
                          have K5 := K4.trans b8
                          have G5 := (hg8.block _ (Array.getElem?_eq_some_iff.1 G4).1 (fun e => by obtain ⟨cu, hcu⟩ := O4.type e.symm; rw [G4] at hcu; simp at hcu)).trans G4
                          have T5 : _ ∧ _ ∧ _ ∧ _ := ⟨cellBelow b8 (by omega) T4.1, cellBelow b8 (by omega) T4.2.1, cellBelow b8 (by omega) T4.2.2.1, cellBelow b8 (by omega) T4.2.2.2⟩
                          refine hK.out _ _ (T5) (fun hHeld => ?_)
                          clear hK K
                          try simp only [Act.put, List.setIfInBounds_toArray, List.set_cons_zero, List.set_cons_succ]
                          refine takeU (i := 9) (v := ?v18) rfl (by kernel_rfl) (fun _ _ _ h => h) (Or.inl ⟨by rfl, ?hy18⟩) (by assumption) ?rest18
                          case hy18 => (intro w hSw; (try dsimp only at hSw); (first | (go_simp; done) | (go_simp; with_reducible rfl)))
                          case rest18 =>
                            try simp only [Act.put, List.setIfInBounds_toArray, List.set_cons_zero, List.set_cons_succ]
                            refine wpAnyU_ready (rs := [11]) (by kernel_rfl) (by simp) ?_
                            refine lastU rfl (fun K hK => ?_)
                            have c0 : (w8).cell? ⟨wr.heap.size, 0, none⟩ = some (.int .i64 0) := (cell_of_row _ _ 0 _ _ _ G5).trans rfl
                            have c1 : (w8).cell? ⟨wr.heap.size, 1, none⟩ = some (.slice none 0 0) := (cell_of_row _ _ 1 _ _ _ G5).trans rfl
                            have f0 : (w8).frozen? ⟨wr.heap.size, 0, none⟩ = false := frozen_of_row _ _ 0 _ _ G5
                            have f1 : (w8).frozen? ⟨wr.heap.size, 1, none⟩ = false := frozen_of_row _ _ 1 _ _ G5
                            go_simp
                            refine hK.out _ _ ?_
                            clear hK K
                            try simp only [Act.put, List.setIfInBounds_toArray, List.set_cons_zero, List.set_cons_succ]
                            refine wpAnyU_done (by kernel_rfl) ?_ _
                            exact cont _ _ _ _ _ _ _ _ _ _ _ _ _ _ _ _ _ _ _ _ _ _ _ _ _ _ _ _ _ _ _ _ _ _ _ _ _ _ _ _ _ _ _ _ _ _ _ _ _ _ _ ((K5.setCell NG _).setCell NG _) ((cell_set_ne _ (Or.inr (by decide))).trans (cell_set_eq _ c0)) (cell_two' c1 _ _) (by rw [ruls_snoc]; exact (hown8.stored2 G5 (by decide) _ _).own.rd)
                        exact AllU.nil
                      exact AllU.nil
                    refine consU rfl (fun K hK => ?_) ?_
                    · go_simp
                      have K3 := K2.trans ((ref_al _ (.cells #[.string ⟨rl.toArray⟩, .string ⟨rr.toArray⟩] 84)).mono K2.size)
                      have T3 : _ ∧ _ ∧ _ ∧ _ := ⟨cellKeep (ref_al _ (.cells #[.string ⟨rl.toArray⟩, .string ⟨rr.toArray⟩] 84)) T2.1, cellKeep (ref_al _ (.cells #[.string ⟨rl.toArray⟩, .string ⟨rr.toArray⟩] 84)) T2.2.1, cellKeep (ref_al _ (.cells #[.string ⟨rl.toArray⟩, .string ⟨rr.toArray⟩] 84)) T2.2.2.1, cellKeep (ref_al _ (.cells #[.string ⟨rl.toArray⟩, .string ⟨rr.toArray⟩] 84)) T2.2.2.2⟩
                      have RL3 := RL2.below (ref_al _ (.cells #[.string ⟨rl.toArray⟩, .string ⟨rr.toArray⟩] 84))
                      have G3 := ((ref_al _ (.cells #[.string ⟨rl.toArray⟩, .string ⟨rr.toArray⟩] 84)).block _ (Array.getElem?_eq_some_iff.1 G2).1).trans G2
                      have RX3 : Rd ((((wr.drew.alloc (.cells #[.int .i64 0, .slice none 0 0] 28)).alloc (.cells #[] 84)).alloc (.cells #[.string ⟨rl.toArray⟩, .string ⟨rr.toArray⟩] 84))) 2 (some ⟨wr.heap.size + 2, 0, none⟩) 1 (ruleCells ⟨rl, rr⟩) := by rw [show wr.heap.size + 2 = (((wr.drew.alloc (.cells #[.int .i64 0, .slice none 0 0] 28)).alloc (.cells #[] 84))).heap.size by simp]; exact rd_lit _ ⟨rl, rr⟩ _
                      refine hK.out _ _ (T3) (fun hHeld => ?_)
                      clear hK K
                      try simp only [Act.put, List.setIfInBounds_toArray, List.set_cons_zero, List.set_cons_succ]
                      refine wpAnyU_ready (rs := [5]) (by kernel_rfl) (by simp) ?_
                      refine consU rfl (fun K hK => ?_) ?_
                      · refine step_from_lit rfl (.tmp 45) (.tmp 47) rfl slRule rfl rfl RL3 hok (by omega) ?_
                        intro A5 c5 w5 hown5 hb5
                        have O0 := hown5.mono (base' := wr.heap.size) (by have := K3.size; first | (simp; done) | (simp at this ⊢; omega))
                        have K4 := K3.trans (hb5.mono K3.size)
                        have T4 : _ ∧ _ ∧ _ ∧ _ := ⟨cellKeep hb5 T3.1, cellKeep hb5 T3.2.1, cellKeep hb5 T3.2.2.1, cellKeep hb5 T3.2.2.2⟩
                        have RL4 := RL3.below hb5
                        have RX4 := RX3.below hb5
                        have G4 := (hb5.block _ (Array.getElem?_eq_some_iff.1 G3).1).trans G3
                        refine hK.out _ _ (T4) (fun hHeld => ?_)
                        clear hK K
                        try simp only [Act.put, List.setIfInBounds_toArray, List.set_cons_zero, List.set_cons_succ]
                        refine wpAnyU_ready (rs := [8]) (by kernel_rfl) (by simp) ?_
                        refine consU rfl (fun K hK => ?_) ?_
                        · refine step_push_off rfl (.tmp 48) (.tmp 50) rfl slRule rfl O0 rfl RX4 (ruleCells_one ⟨rl, rr⟩) (by have := K4.size; simpa using this) (by omega) ?_
                          intro A8 c8 w8 hown8 hg8 hat8
                          have b8 := (Below.refl wr.heap.size _).grown hg8 (by have := K4.size; simpa using this) (fun _ hk => (O0.lt _ hk).1)
                          have K5 := K4.trans b8
                          have G5 := (hg8.block _ (Array.getElem?_eq_some_iff.1 G4).1 (fun e => by obtain ⟨cu, hcu⟩ := O0.type e.symm; rw [G4] at hcu; simp at hcu)).trans G4
                          have T5 : _ ∧ _ ∧ _ ∧ _ := ⟨cellBelow b8 (by omega) T4.1, cellBelow b8 (by omega) T4.2.1, cellBelow b8 (by omega) T4.2.2.1, cellBelow b8 (by omega) T4.2.2.2⟩
                          refine hK.out _ _ (T5) (fun hHeld => ?_)
                          clear hK K
                          try simp only [Act.put, List.setIfInBounds_toArray, List.set_cons_zero, List.set_cons_succ]
                          refine takeU (i := 9) (v := ?v19) rfl (by kernel_rfl) (fun _ _ _ h => h) (Or.inl ⟨by rfl, ?hy19⟩) (by assumption) ?rest19
                          case hy19 => (intro w hSw; (try dsimp only at hSw); (first | (go_simp; done) | (go_simp; with_reducible rfl)))
                          case rest19 =>
                            try simp only [Act.put, List.setIfInBounds_toArray, List.set_cons_zero, List.set_cons_succ]
                            refine wpAnyU_ready (rs := [11]) (by kernel_rfl) (by simp) ?_
                            refine lastU rfl (fun K hK => ?_)
                            have c0 : (w8).cell? ⟨wr.heap.size, 0, none⟩ = some (.int .i64 0) := (cell_of_row _ _ 0 _ _ _ G5).trans rfl
                            have c1 : (w8).cell? ⟨wr.heap.size, 1, none⟩ = some (.slice none 0 0) := (cell_of_row _ _ 1 _ _ _ G5).trans rfl
                            have f0 : (w8).frozen? ⟨wr.heap.size, 0, none⟩ = false := frozen_of_row _ _ 0 _ _ G5
                            have f1 : (w8).frozen? ⟨wr.heap.size, 1, none⟩ = false := frozen_of_row _ _ 1 _ _ G5
                            go_simp
                            refine hK.out _ _ ?_
                            clear hK K
                            try simp only [Act.put, List.setIfInBounds_toArray, List.set_cons_zero, List.set_cons_succ]
                            refine wpAnyU_done (by kernel_rfl) ?_ _
                            exact cont _ _ _ _ _ _ _ _ _ _ _ _ _ _ _ _ _ _ _ _ _ _ _ _ _ _ _ _ _ _ _ _ _ _ _ _ _ _ _ _ _ _ _ _ _ _ _ _ _ _ _ ((K5.setCell NG _).setCell NG _) ((cell_set_ne _ (Or.inr (by decide))).trans (cell_set_eq _ c0)) (cell_two' c1 _ _) (by rw [ruls_snoc]; exact (hown8.stored2 G5 (by decide) _ _).own.rd)
                        exact AllU.nil
                      exact AllU.nil
                    exact AllU.nil
                  refine consU rfl (fun K hK => ?_) ?_
                  · go_simp
                    have K2 := K1.trans ((ref_al _ (.cells #[.string ⟨rl.toArray⟩, .string ⟨rr.toArray⟩] 84)).mono K1.size)
                    have T2 : _ ∧ _ ∧ _ ∧ _ := ⟨cellKeep (ref_al _ (.cells #[.string ⟨rl.toArray⟩, .string ⟨rr.toArray⟩] 84)) T1.1, cellKeep (ref_al _ (.cells #[.string ⟨rl.toArray⟩, .string ⟨rr.toArray⟩] 84)) T1.2.1, cellKeep (ref_al _ (.cells #[.string ⟨rl.toArray⟩, .string ⟨rr.toArray⟩] 84)) T1.2.2.1, cellKeep (ref_al _ (.cells #[.string ⟨rl.toArray⟩, .string ⟨rr.toArray⟩] 84)) T1.2.2.2⟩
                    have RL2 := RL1.below (ref_al _ (.cells #[.string ⟨rl.toArray⟩, .string ⟨rr.toArray⟩] 84))
                    have G2 := ((ref_al _ (.cells #[.string ⟨rl.toArray⟩, .string ⟨rr.toArray⟩] 84)).block _ (Array.getElem?_eq_some_iff.1 G1).1).trans G1
                    have RX2 : Rd (((wr.drew.alloc (.cells #[.int .i64 0, .slice none 0 0] 28)).alloc (.cells #[.string ⟨rl.toArray⟩, .string ⟨rr.toArray⟩] 84))) 2 (some ⟨wr.heap.size + 1, 0, none⟩) 1 (ruleCells ⟨rl, rr⟩) := by rw [show wr.heap.size + 1 = ((wr.drew.alloc (.cells #[.int .i64 0, .slice none 0 0] 28))).heap.size by simp]; exact rd_lit _ ⟨rl, rr⟩ _
                    refine hK.out _ _ (T2) (fun hHeld => ?_)
                    clear hK K
                    try simp only [Act.put, List.setIfInBounds_toArray, List.set_cons_zero, List.set_cons_succ]
                    refine wpAnyU_ready (rs := [2]) (by kernel_rfl) (by simp) ?_
                    refine consU rfl (fun K hK => ?_) ?_
                    · go_simp
                      have K3 := K2.trans ((ref_al _ (.cells #[] 84)).mono K2.size)
                      have T3 : _ ∧ _ ∧ _ ∧ _ := ⟨cellKeep (ref_al _ (.cells #[] 84)) T2.1, cellKeep (ref_al _ (.cells #[] 84)) T2.2.1, cellKeep (ref_al _ (.cells #[] 84)) T2.2.2.1, cellKeep (ref_al _ (.cells #[] 84)) T2.2.2.2⟩
                      have RL3 := RL2.below (ref_al _ (.cells #[] 84))
                      have RX3 := RX2.below (ref_al _ (.cells #[] 84))
                      have G3 := ((ref_al _ (.cells #[] 84)).block _ (Array.getElem?_eq_some_iff.1 G2).1).trans G2
                      refine hK.out _ _ (T3) (fun hHeld => ?_)
                      clear hK K
                      try simp only [Act.put, List.setIfInBounds_toArray, List.set_cons_zero, List.set_cons_succ]
                      refine wpAnyU_ready (rs := [5]) (by kernel_rfl) (by simp) ?_
                      refine consU rfl (fun K hK => ?_) ?_
                      · refine step_from_lit rfl (.tmp 45) (.tmp 47) rfl slRule rfl rfl RL3 hok (by omega) ?_
                        intro A5 c5 w5 hown5 hb5
                        have O0 := hown5.mono (base' := wr.heap.size) (by have := K3.size; first | (simp; done) | (simp at this ⊢; omega))
                        have K4 := K3.trans (hb5.mono K3.size)
                        have T4 : _ ∧ _ ∧ _ ∧ _ := ⟨cellKeep hb5 T3.1, cellKeep hb5 T3.2.1, cellKeep hb5 T3.2.2.1, cellKeep hb5 T3.2.2.2⟩
                        have RL4 := RL3.below hb5
                        have RX4 := RX3.below hb5
                        have G4 := (hb5.block _ (Array.getElem?_eq_some_iff.1 G3).1).trans G3
                        refine hK.out _ _ (T4) (fun hHeld => ?_)
                        clear hK K
                        try simp only [Act.put, List.setIfInBounds_toArray, List.set_cons_zero, List.set_cons_succ]
                        refine wpAnyU_ready (rs := [8]) (by kernel_rfl) (by simp) ?_
                        refine consU rfl (fun K hK => ?_) ?_
                        · refine step_push_off rfl (.tmp 48) (.tmp 50) rfl slRule rfl O0 rfl RX4 (ruleCells_one ⟨rl, rr⟩) (by have := K4.size; simpa using this) (by omega) ?_
                          intro A8 c8 w8 hown8 hg8 hat8
                          have b8 := (Below.refl wr.heap.size _).grown hg8 (by have := K4.size; simpa using this) (fun _ hk => (O0.lt _ hk).1)
                          have K5 := K4.trans b8
                          have G5 := (hg8.block _ (Array.getElem?_eq_some_iff.1 G4).1 (fun e => by obtain ⟨cu, hcu⟩ := O0.type e.symm; rw [G4] at hcu; simp at hcu)).trans G4
                          have T5 : _ ∧ _ ∧ _ ∧ _ := ⟨cellBelow b8 (by omega) T4.1, cellBelow b8 (by omega) T4.2.1, cellBelow b8 (by omega) T4.2.2.1, cellBelow b8 (by omega) T4.2.2.2⟩
                          refine hK.out _ _ (T5) (fun hHeld => ?_)
                          clear hK K
                          try simp only [Act.put, List.setIfInBounds_toArray, List.set_cons_zero, List.set_cons_succ]
                          refine takeU (i := 9) (v := ?v20) rfl (by kernel_rfl) (fun _ _ _ h => h) (Or.inl ⟨by rfl, ?hy20⟩) (by assumption) ?rest20
                          case hy20 => (intro w hSw; (try dsimp only at hSw); (first | (go_simp; done) | (go_simp; with_reducible rfl)))
                          case rest20 =>
                            try simp only [Act.put, List.setIfInBounds_toArray, List.set_cons_zero, List.set_cons_succ]
                            refine wpAnyU_ready (rs := [11]) (by kernel_rfl) (by simp) ?_
                            refine lastU rfl (fun K hK => ?_)
                            have c0 : (w8).cell? ⟨wr.heap.size, 0, none⟩ = some (.int .i64 0) := (cell_of_row _ _ 0 _ _ _ G5).trans rfl
                            have c1 : (w8).cell? ⟨wr.heap.size, 1, none⟩ = some (.slice none 0 0) := (cell_of_row _ _ 1 _ _ _ G5).trans rfl
                            have f0 : (w8).frozen? ⟨wr.heap.size, 0, none⟩ = false := frozen_of_row _ _ 0 _ _ G5
                            have f1 : (w8).frozen? ⟨wr.heap.size, 1, none⟩ = false := frozen_of_row _ _ 1 _ _ G5
                            go_simp
                            refine hK.out _ _ ?_
                            clear hK K
                            try simp only [Act.put, List.setIfInBounds_toArray, List.set_cons_zero, List.set_cons_succ]
                            refine wpAnyU_done (by kernel_rfl) ?_ _
                            exact cont _ _ _ _ _ _ _ _ _ _ _ _ _ _ _ _ _ _ _ _ _ _ _ _ _ _ _ _ _ _ _ _ _ _ _ _ _ _ _ _ _ _ _ _ _ _ _ _ _ _ _ ((K5.setCell NG _).setCell NG _) ((cell_set_ne _ (Or.inr (by decide))).trans (cell_set_eq _ c0)) (cell_two' c1 _ _) (by rw [ruls_snoc]; exact (hown8.stored2 G5 (by decide) _ _).own.rd)
                        exact AllU.nil
                      exact AllU.nil
                    exact AllU.nil
                  exact AllU.nil
                exact AllU.nil
    case pos =>
      have hz0 : i < rs.length := by have := HN.out; omega
      obtain ⟨b, o, rfl, hz, hc1, hc2⟩ := (HA.out wr HQ.out.2.2.2.2.2).ruleAt (k := i) hlt
      have hsz := HS.out rs[i] (List.getElem_mem hz)
      have HK1 := Lib.hid (HKS.out i hz)
      have HG1 := Lib.hid (HGS.out i hz)
      generalize rs[i] = x at *
      obtain ⟨xl, xr⟩ := x
      simp only at hc1 hc2 hsz
      have HP1 := Lib.hid (fun W => HPL.out xl W hsz.1)
      have HOC := Lib.hid (show M.occ xl rl = decide (0 < (M.PlacesOf xl rl).length) from rfl)
      simp only at HK1 HG1
      generalize M.occ xl rl = ob at *
      generalize (M.PlacesOf xl rl).length = np at *
      generalize hg1 : M.gone rl (rs.take (i + 1)) = gs1 at *
      generalize hk1 : M.kept rl (rs.take (i + 1)) = ks1 at *
      generalize M.gone rl (rs.take i) = gs at *
      generalize M.kept rl (rs.take i) = ks at *
      have HE1 := Lib.hid hg1
      have HE2 := Lib.hid hk1
      clear hg1 hk1 hsz
      obtain ⟨ng, hng⟩ : ∃ ng, ng = gs.length := ⟨_, rfl⟩
      obtain ⟨nk, hnk⟩ : ∃ nk, nk = ks.length := ⟨_, rfl⟩
      rw [← hng, ← hnk] at HQ HGL
      rw [← hng]
      have HNG := Lib.hid hng
      have HNK := Lib.hid hnk
      clear hng hnk
      have k1 := fun o => allocKeep1 HQ.out.1.2.1.1 o
      go_wp2_with fail
      refine (HP1.out _).mono ?_
      rintro e w1 ⟨P, cp, rfl, hown, hb⟩
      have HQ1 := Lib.hid ((HQ.out.below (ref_al _ _)).below hb)
      have e0 : w1.cell? ⟨wr.heap.size, 0, none⟩ = some (.string ⟨xl.toArray⟩) := cellKeep hb (by simp [go_sem])
      have e1 : w1.cell? ⟨wr.heap.size, 1, none⟩ = some (.string ⟨xr.toArray⟩) := cellKeep hb (by simp [go_sem])
      clear hown hb k1 hc1 hc2
      by_cases hnp : 0 < np
      case pos =>
        have hnp' : (0 : Int) < (np : Int) := by omega
        have HG2 := Lib.hid (HG1.out (by rw [HOC.out]; simp [hnp]))
        go_wp2_with (at_builtin; (refine push_off_many rfl _ _ rfl slRule rfl (HQ1.out.below (ref_al _ _)).2.2.1 rfl (rd_lit _ ⟨xl, xr⟩ _) (ruleCells_one ⟨xl, xr⟩) (by have := (HQ1.out.below (ref_al _ (.cells #[.string ⟨xl.toArray⟩, .string ⟨xr.toArray⟩] 84))).1.2.2.2.2; simpa using this) (by have := HGL.out; omega) ?_; intro A7 c7 w7 hown7 hg7 hat7))
        have HQ7 := Lib.hid ((HQ1.out.below (ref_al _ _)).gone hg7 hat7 (r := ⟨xl, xr⟩) hown7)
        clear hown7 hg7 hat7
        go_roundw
        case rel =>
          refine ⟨i + 1, A7, c7, L, cl, by omega, by go_num, ?_, ?_⟩
          · rw [HE1.out, HG2.out.2, List.length_append, ← HNG.out]; rfl
          · rw [HE1.out, HE2.out, HG2.out.1, HG2.out.2, List.length_append, ← HNG.out, ← HNK.out]; exact HQ7.out
        case measure => simp [intOf] <;> omega
      case neg =>
        have hnp' : ¬ (0 : Int) < (np : Int) := by omega
        have HK2 := Lib.hid (HK1.out (by rw [HOC.out]; simp [hnp]))
        have l1 := HQ1.out.2.1
        go_wp2_with (at_builtin; (refine push_off_many rfl _ _ rfl slRule rfl (HQ1.out.below (ref_al _ _)).2.2.2.1 rfl (rd_lit _ ⟨xl, xr⟩ _) (ruleCells_one ⟨xl, xr⟩) (by have := (HQ1.out.below (ref_al _ (.cells #[.string ⟨xl.toArray⟩, .string ⟨xr.toArray⟩] 84))).1.2.2.2.2; simpa using this) (by have := HGL.out; omega) ?_; intro A7 c7 w7 hown7 hg7 hat7; obtain ⟨l7, f7, q7⟩ := (HQ1.out.below (ref_al _ _)).kept hg7 hat7 (r := ⟨xl, xr⟩) hown7))
        have HQ7 := Lib.hid q7
        clear hown7 hg7 hat7 q7
        try go_wp2_with fail
        go_roundw
        case rel =>
          refine ⟨i + 1, R, cr, A7, c7, by omega, by go_num, ?_, ?_⟩
          · rw [HE1.out, HK2.out.2, ← HNG.out]
          · rw [HE1.out, HE2.out, HK2.out.1, HK2.out.2, List.length_append, ← HNG.out, ← HNK.out]; exact HQ7.out
        case measure => simp [intOf] <;> omega
end Go.Proofs.Ytlohpphmamapeaa
/-
  A turn of the completion: the contract of TurnWork of the reference.
  Conditions: at most 2^20 rules, equations, letters.
-/
namespace Go.Proofs.Ytlohpphmamapeaa
open Go.RowKit
set_option linter.unusedVariables false
set_option linter.unusedSimpArgs false
theorem heldT {a w w1 : World} {b0 o0 : Nat} {u0 : Value} {b1 o1 : Nat} {u1 : Value} {b2 o2 : Nat} {u2 : Value} {b3 o3 : Nat} {u3 : Value} {b4 o4 : Nat} {u4 : Value} (h : w.cell? ⟨b0, o0, none⟩ = some u0 ∧ w.cell? ⟨b1, o1, none⟩ = some u1 ∧ w.cell? ⟨b2, o2, none⟩ = some u2 ∧ w.cell? ⟨b3, o3, none⟩ = some u3 ∧ w.cell? ⟨b4, o4, none⟩ = some u4 ∧ Below a.heap.size a w) (hb : Below w.heap.size w w1) :
    w1.cell? ⟨b0, o0, none⟩ = some u0 ∧ w1.cell? ⟨b1, o1, none⟩ = some u1 ∧ w1.cell? ⟨b2, o2, none⟩ = some u2 ∧ w1.cell? ⟨b3, o3, none⟩ = some u3 ∧ w1.cell? ⟨b4, o4, none⟩ = some u4 ∧ Below a.heap.size a w1 :=
  ⟨cellKeep hb h.1, cellKeep hb h.2.1, cellKeep hb h.2.2.1, cellKeep hb h.2.2.2.1, cellKeep hb h.2.2.2.2.1, h.2.2.2.2.2.trans (hb.mono h.2.2.2.2.2.size)⟩
theorem heldT_below {a w : World} {p0 p1 p2 p3 p4 : Prop} (h : p0 ∧ p1 ∧ p2 ∧ p3 ∧ p4 ∧ Below a.heap.size a w) : Below a.heap.size a w := h.2.2.2.2.2
theorem rulesOk_13 {k : Int} {rs : List M.Rule} (h : 12 < rs.length) : M.RulesOk k rs = false := by
  unfold M.RulesOk
  rw [decide_eq_false (show ¬ rs.length ≤ 12 by omega)]
  simp
theorem with_len (rs : List M.Rule) (r : M.Rule) : (M.withRule rs r).length = (M.nextRules rs r).length := by rw [next_len]; simp [M.withRule]
theorem insert_13 {k : Int} {A : Option Addr} {c : Nat} {rs : List M.Rule} {r : M.Rule} {W : World} (hA : Rd W 2 A rs.length (ruls rs)) (hsy : M.SystemOk k rs = true) (hrl : r.left.length ≤ 1048576) (hrr : r.right.length ≤ 1048576) (h13 : 12 < (M.nextRules rs r).length) :
    Calls Try.prog 99 #[.agg #[.int .i64 k, .slice A rs.length c], .agg #[.string ⟨r.left.toArray⟩, .string ⟨r.right.toArray⟩]] W (RetIns 84 k (M.nextBy id (M.kept r.left rs) ++ [r]) (M.gone r.left rs) W) := by
  obtain ⟨hk, h12, hg⟩ := sys_iff.1 hsy
  have hs := sys_short hsy
  obtain ⟨rl, rr⟩ := r
  refine l06Insert_t id k A c rs rl rr W hA h12 hs hrl (fun W' B d hB x hx => ?_)
  have hwl := with_len rs ⟨rl, rr⟩
  have hkl := kept_len rl rs
  have hnl := next_len rs ⟨rl, rr⟩
  refine l04Trace_no k B d (M.withRule rs ⟨rl, rr⟩) x.right W' hB (by simp only at hnl; omega) (fun y hy => ?_) (rulesOk_13 (by omega)) (hs x hx).2
  rcases List.mem_append.1 hy with hy | hy
  · exact hs y (kept_mem hy)
  · rw [List.mem_singleton.1 hy]; exact ⟨hrl, hrr⟩
theorem insert_ok {k : Int} {A : Option Addr} {c : Nat} {rs : List M.Rule} {r : M.Rule} {W : World} (hA : Rd W 2 A rs.length (ruls rs)) (hsy : M.SystemOk k rs = true) (hr : M.Good k r) (h13 : ¬ 12 < (M.nextRules rs r).length) :
    Calls Try.prog 99 #[.agg #[.int .i64 k, .slice A rs.length c], .agg #[.string ⟨r.left.toArray⟩, .string ⟨r.right.toArray⟩]] W (RetIns 84 k (M.nextRules rs r) (M.gone r.left rs) W) := by
  obtain ⟨hk, h12, hg⟩ := sys_iff.1 hsy
  have hs := sys_short hsy
  have hgw := with_good hr hg
  have hwl := with_len rs r
  have hwsy : M.SystemOk k (M.withRule rs r) = true := sys_iff.2 ⟨hk, by omega, hgw⟩
  have hro : M.RulesOk k (M.withRule rs r) = true := by
    unfold M.SystemOk at hwsy
    exact (Bool.and_eq_true_iff.1 hwsy).1
  obtain ⟨rl, rr⟩ := r
  refine l06Insert_t (M.normal (M.withRule rs ⟨rl, rr⟩)) k A c rs rl rr W hA h12 hs (by have := hr.2.2.2.1; simp only at this; omega) (fun W' B d hB x hx => ?_)
  exact l04Trace_c k B d (M.withRule rs ⟨rl, rr⟩) x.right W' hB (by omega) (sys_short hwsy) (good_ordered hgw) hro (good_wd hk (hg x hx)).2
set_option maxRecDepth 100000 in
theorem l06Swap_c (u v : ByteArray) (w : World) : Calls Try.prog 98 #[.string u, .string v] w fun e w' => e = .returned (.tuple #[.string v, .string u]) ∧ w = w' := by
  go_enter Try.func98, Try.ntmps98
  go_wp2_with fail
  go_ret2
  exact ⟨rfl, rfl⟩
set_option maxRecDepth 100000 in
set_option maxHeartbeats 8000000 in
theorem spec_TurnWork_c (k : Int) (A : Option Addr) (c : Nat) (rs : List M.Rule) (B : Option Addr) (d : Nat) (qs : List M.Rule) (t : Int) (w : World) (hA : Rd w 2 A rs.length (ruls rs)) (hB : Rd w 2 B qs.length (ruls qs)) (hl : rs.length ≤ 1048576) (hs : ∀ r ∈ rs, r.left.length ≤ 1048576 ∧ r.right.length ≤ 1048576) (hql : qs.length ≤ 1048576) (hqs : ∀ r ∈ qs, r.left.length ≤ 1048576 ∧ r.right.length ≤ 1048576) :
    Calls Try.prog 42 #[.agg #[.int .i64 k, .slice A rs.length c, .slice B qs.length d, .int .i64 t]] w (RetTurn 84 k (M.turn k rs qs t) w) := by
  have HA := Lib.hid (fun W (hb : Below w.heap.size w W) => hA.below hb)
  have HB := Lib.hid (fun W (hb : Below w.heap.size w W) => hB.below hb)
  have HOK := Lib.hid (fun W h1 h2 => spec_WorkOk_c k A c rs B d qs t W h1 h2 hl hs hql hqs)
  have HCP := Lib.hid (fun W h1 h2 => show Calls Try.prog 95 #[.agg #[.int .i64 k, .slice A rs.length c, .slice B qs.length d, .int .i64 t]] W (RetC 84 k rs.length (ruls rs) qs.length (ruls qs) t W) from l06Copy_c k A c rs B d qs t W h1 h2 hl hql)
  have H0 := Lib.hid (show CopyS w ((w.alloc (.cells #[.int .i64 k, .slice A rs.length c, .slice B qs.length d, .int .i64 t] 60)).alloc (.cells #[.int .i64 0, .slice none 0 0, .slice none 0 0, .int .i64 0] 60)) k A rs.length c B qs.length d t from
    ⟨⟨by simp [go_sem], by simp [go_sem], by simp [go_sem], by simp [go_sem]⟩, ⟨by simp [go_sem], by simp [go_sem], by simp [go_sem], by simp [go_sem]⟩, ⟨by simp [go_sem], by simp [go_sem], by simp [go_sem], by simp [go_sem]⟩, by simp, below_al (below_al (Below.refl _ _) _) _⟩)
  generalize hw0 : (w.alloc (.cells #[.int .i64 k, .slice A rs.length c, .slice B qs.length d, .int .i64 t] 60)).alloc (.cells #[.int .i64 0, .slice none 0 0, .slice none 0 0, .int .i64 0] 60) = w0 at H0
  have HW0 := Lib.hid hw0
  clear hw0

  cases hok : M.WorkOk k rs qs t with
  | false =>
    rw [show M.turn k rs qs t = ⟨rs, qs, t, 4⟩ from if_pos hok]
    rw [hok] at HOK
    unfold RetTurn
    simp only
    generalize rs.length = n at *
    generalize qs.length = m at *
    clear hA hB hs hqs hl hql hok
    go_enter Try.func42, Try.ntmps42
    go_wp2_with fail
    rw [HW0.out]
    clear HW0
    obtain ⟨⟨a0, a1, a2, a3⟩, _⟩ := H0.out
    try go_wp2_with fail
    refine (HOK.out _ (HA.out _ H0.out.2.2.2.2) (HB.out _ H0.out.2.2.2.2)).mono ?_
    rintro e w1 ⟨rfl, hb⟩
    have Q1 := Lib.hid (H0.out.below hb)
    clear hb a0 a1 a2 a3
    obtain ⟨⟨a0, a1, a2, a3⟩, _⟩ := Q1.out
    go_wp2_with fail
    refine (HCP.out _ (HA.out _ Q1.out.2.2.2.2) (HB.out _ Q1.out.2.2.2.2)).mono ?_
    rintro e w9 ⟨A9, c9, B9, d9, rfl, o1, o2, ha, hb9⟩
    have Q9 := Lib.hid (Q1.out.below hb9)
    have O1 := Lib.hid (o1.mono (base' := w.heap.size + 2) Q1.out.2.2.2.1)
    have O2 := Lib.hid (o2.mono (base' := w.heap.size + 2) Q1.out.2.2.2.1)
    obtain ⟨_, ⟨b0, b1, b2, b3⟩, ⟨f0, f1, f2, f3⟩, _, _⟩ := Q9.out
    clear o1 o2 hb9
    go_wp2_with fail
    obtain ⟨r1, r2, r3⟩ := Q9.out.fin O1.out O2.out (.int .i64 k) (.slice A9 n c9) (.slice B9 m d9) (.int .i64 (t))
    obtain ⟨x0, x1, x2, x3⟩ := Q9.out.res (.int .i64 k) (.slice A9 n c9) (.slice B9 m d9) (.int .i64 (t))
    refine bodyPost_ret (v := .tuple #[.agg #[.int .i64 k, .slice A9 n c9, .slice B9 m d9, .int .i64 (t)], .int .i64 4]) (by simp [results, Try.results42, go_sem, x0, x1, x2, x3]) rfl ⟨A9, c9, B9, d9, rfl, r1, r2, ha, r3⟩
  | true =>
  obtain ⟨hsy, hq4, ht2, hf⟩ := work_iff.1 hok
  rw [hok] at HOK
  cases qs with
  | nil =>
    rw [show M.turn k rs [] t = ⟨rs, [], t, 0⟩ from by unfold M.turn; rw [if_neg (by rw [hok]; simp)]]
    unfold RetTurn
    simp only [List.length_nil] at *
    generalize rs.length = n at *
    clear hA hB hs hqs hl hql hok hsy hf
    go_enter Try.func42, Try.ntmps42
    go_wp2_with fail
    rw [HW0.out]
    clear HW0
    obtain ⟨⟨a0, a1, a2, a3⟩, _⟩ := H0.out
    try go_wp2_with fail
    refine (HOK.out _ (HA.out _ H0.out.2.2.2.2) (HB.out _ H0.out.2.2.2.2)).mono ?_
    rintro e w1 ⟨rfl, hb⟩
    have Q1 := Lib.hid (H0.out.below hb)
    clear hb a0 a1 a2 a3
    obtain ⟨⟨a0, a1, a2, a3⟩, _⟩ := Q1.out
    go_wp2_with fail
    refine (HCP.out _ (HA.out _ Q1.out.2.2.2.2) (HB.out _ Q1.out.2.2.2.2)).mono ?_
    rintro e w9 ⟨A9, c9, B9, d9, rfl, o1, o2, ha, hb9⟩
    have Q9 := Lib.hid (Q1.out.below hb9)
    have O1 := Lib.hid (o1.mono (base' := w.heap.size + 2) Q1.out.2.2.2.1)
    have O2 := Lib.hid (o2.mono (base' := w.heap.size + 2) Q1.out.2.2.2.1)
    obtain ⟨_, ⟨b0, b1, b2, b3⟩, ⟨f0, f1, f2, f3⟩, _, _⟩ := Q9.out
    clear o1 o2 hb9
    go_wp2_with fail
    obtain ⟨r1, r2, r3⟩ := Q9.out.fin O1.out O2.out (.int .i64 k) (.slice A9 n c9) (.slice B9 0 d9) (.int .i64 (t))
    obtain ⟨x0, x1, x2, x3⟩ := Q9.out.res (.int .i64 k) (.slice A9 n c9) (.slice B9 0 d9) (.int .i64 (t))
    refine bodyPost_ret (v := .tuple #[.agg #[.int .i64 k, .slice A9 n c9, .slice B9 0 d9, .int .i64 (t)], .int .i64 0]) (by simp [results, Try.results42, go_sem, x0, x1, x2, x3]) rfl ⟨A9, c9, B9, d9, rfl, r1, r2, ha, r3⟩
  | cons q qt =>
  by_cases h200 : t = 200
  case pos =>
    subst h200
    rw [show M.turn k rs (q :: qt) 200 = ⟨rs, q :: qt, 200, 3⟩ from by unfold M.turn; rw [if_neg (by rw [hok]; simp)]; rfl]
    unfold RetTurn
    simp only [List.length_cons] at *
    generalize rs.length = n at *
    generalize qt.length = m at *
    have hm0 : ¬ ((m : Int) + 1 = 0) := by omega
    clear hA hB hs hqs hl hql hok hsy hf
    go_enter Try.func42, Try.ntmps42
    go_wp2_with fail
    rw [HW0.out]
    clear HW0
    obtain ⟨⟨a0, a1, a2, a3⟩, _⟩ := H0.out
    try go_wp2_with fail
    refine (HOK.out _ (HA.out _ H0.out.2.2.2.2) (HB.out _ H0.out.2.2.2.2)).mono ?_
    rintro e w1 ⟨rfl, hb⟩
    have Q1 := Lib.hid (H0.out.below hb)
    clear hb a0 a1 a2 a3
    obtain ⟨⟨a0, a1, a2, a3⟩, _⟩ := Q1.out
    go_wp2_with fail
    refine (HCP.out _ (HA.out _ Q1.out.2.2.2.2) (HB.out _ Q1.out.2.2.2.2)).mono ?_
    rintro e w9 ⟨A9, c9, B9, d9, rfl, o1, o2, ha, hb9⟩
    have Q9 := Lib.hid (Q1.out.below hb9)
    have O1 := Lib.hid (o1.mono (base' := w.heap.size + 2) Q1.out.2.2.2.1)
    have O2 := Lib.hid (o2.mono (base' := w.heap.size + 2) Q1.out.2.2.2.1)
    obtain ⟨_, ⟨b0, b1, b2, b3⟩, ⟨f0, f1, f2, f3⟩, _, _⟩ := Q9.out
    clear o1 o2 hb9
    go_wp2_with fail
    obtain ⟨r1, r2, r3⟩ := Q9.out.fin O1.out O2.out (.int .i64 k) (.slice A9 n c9) (.slice B9 (m + 1) d9) (.int .i64 (200))
    obtain ⟨x0, x1, x2, x3⟩ := Q9.out.res (.int .i64 k) (.slice A9 n c9) (.slice B9 (m + 1) d9) (.int .i64 (200))
    refine bodyPost_ret (v := .tuple #[.agg #[.int .i64 k, .slice A9 n c9, .slice B9 (m + 1) d9, .int .i64 (200)], .int .i64 3]) (by simp [results, Try.results42, go_sem, x0, x1, x2, x3]) rfl ⟨A9, c9, B9, d9, rfl, r1, r2, ha, r3⟩
  case neg =>
    obtain ⟨b, o, rfl, hz, hc1, hc2⟩ := hB.ruleAt (k := 0) (by simp)
    simp only [List.getElem_cons_zero, Nat.zero_mul, Nat.add_zero] at hc1 hc2
    have HQ := Lib.hid (fun W (hb : Below w.heap.size w W) => And.intro (cellKeep hb hc1) (cellKeep hb hc2))
    obtain ⟨hk, h12, hg⟩ := sys_iff.1 hsy
    have hro : M.RulesOk k rs = true := by unfold M.SystemOk at hsy; exact (Bool.and_eq_true_iff.1 hsy).1
    obtain ⟨fl, fr⟩ := hf q (by simp)
    have HT1 := Lib.hid (fun W h => l04Trace_c k A c rs q.left W h hl hs (good_ordered hg) hro fl)
    have HT2 := Lib.hid (fun W h => l04Trace_c k A c rs q.right W h hl hs (good_ordered hg) hro fr)
    have hu16 := (normal_fit (good_ordered hg) _ q.left (Nat.le_refl _) fl).1.2.2
    have hv16 := (normal_fit (good_ordered hg) _ q.right (Nat.le_refl _) fr).1.2.2
    have hgood := fun hne h8 => turnRule_good hok rfl hne h8
    rw [show M.turn k rs (q :: qt) t = if M.normal rs q.left = M.normal rs q.right then ⟨rs, qt, t + 1, 0⟩ else M.turnRule rs (q :: qt) qt t (M.oriented ⟨M.normal rs q.left, M.normal rs q.right⟩) from by unfold M.turn; rw [if_neg (by rw [hok]; simp)]; exact if_neg h200]
    have HOI := Lib.hid (fun W (h : Rd W 2 A rs.length (ruls rs)) (r : M.Rule) hr h13 => insert_ok (c := c) (r := r) h hsy hr h13)
    have HNI := Lib.hid (fun W (h : Rd W 2 A rs.length (ruls rs)) (r : M.Rule) hrl hrr h13 => insert_13 (c := c) (r := r) h hsy hrl hrr h13)
    have HNS := Lib.hid (fun (r : M.Rule) hr h13 => next_sys (r := r) hk hr hg h13)
    have HGL := Lib.hid (fun (l : List UInt8) => Nat.le_trans (gone_len l rs) h12)
    have ht3 : 0 ≤ t ∧ t < 200 := ⟨ht2.1, by omega⟩
    have hwrap : (t + 1 + 9223372036854775808) % 18446744073709551616 - 9223372036854775808 = t + 1 := by omega
    generalize M.normal rs q.left = u at *
    generalize M.normal rs q.right = v at *
    obtain ⟨ql, qr⟩ := q
    simp only at hc1 hc2 HQ HT1 HT2
    simp only [List.length_cons] at HB HOK HCP H0 HW0 ⊢
    obtain ⟨n, hn⟩ : ∃ n, n = rs.length := ⟨_, rfl⟩
    have HN := Lib.hid hn
    rw [← hn] at HA HOK HCP HT1 HT2 HOI HNI H0 HW0 ⊢
    obtain ⟨m, hm⟩ : ∃ m, m = qt.length := ⟨_, rfl⟩
    have HM := Lib.hid hm
    rw [← hm] at HB HOK HCP H0 HW0 ⊢
    have hm4 : m < 400 := by simp only [List.length_cons] at hq4; omega
    have hm0 : ¬ ((m : Int) + 1 = 0) := by omega
    have hm1 : (0 : Int) < (m : Int) + 1 := by omega
    have ht200 : (t == 200) = false := by simpa using h200
    obtain ⟨X, hX⟩ : ∃ X, X = if u = v then (⟨rs, qt, t + 1, 0⟩ : M.Wk) else M.turnRule rs (⟨ql, qr⟩ :: qt) qt t (M.oriented ⟨u, v⟩) := ⟨_, rfl⟩
    rw [← hX]
    have HX := Lib.hid hX
    clear hA hB hs hqs hl hql hok hsy hf hn hm fl fr hro hg hk hz hc1 hc2 hq4 hX
    go_enter Try.func42, Try.ntmps42
    go_wp2_with fail
    rw [HW0.out]
    clear HW0
    obtain ⟨⟨a0, a1, a2, a3⟩, _⟩ := H0.out
    try go_wp2_with fail
    refine (HOK.out _ (HA.out _ H0.out.2.2.2.2) (HB.out _ H0.out.2.2.2.2)).mono ?_
    rintro e w1 ⟨rfl, hb⟩
    have Q1 := Lib.hid (H0.out.below hb)
    clear hb a0 a1 a2 a3
    obtain ⟨⟨a0, a1, a2, a3⟩, _⟩ := Q1.out
    go_wp2_with fail
    refine (HCP.out _ (HA.out _ Q1.out.2.2.2.2) (HB.out _ Q1.out.2.2.2.2)).mono ?_
    rintro e w2 ⟨A2, c2, B2, d2, rfl, o1, o2, ha, hb2⟩
    have Q2 := Lib.hid (Q1.out.below hb2)
    have QO2 := Lib.hid (OutQ.made (ew := 60) (k := k) (t := t) (o1.mono (base' := w.heap.size + 2) Q1.out.2.2.2.1) (o2.mono (base' := w.heap.size + 2) Q1.out.2.2.2.1) ha Q2.out.2.2.2.1)
    have Q3 := Lib.hid (Q2.out.below (ref_al w2 (.cells #[.int .i64 k, .slice A2 n c2, .slice B2 (m + 1) d2, .int .i64 t] 60)))
    clear o1 o2 hb2 a0 a1 a2 a3 ha
    go_wp2_with fail
    generalize hw3 : w2.alloc (.cells #[.int .i64 k, .slice A2 n c2, .slice B2 (m + 1) d2, .int .i64 t] 60) = w3 at *
    clear hw3
    generalize w2.heap.size = g at *
    clear Q2
    obtain ⟨⟨a0, a1, a2, a3⟩, _⟩ := Q3.out
    obtain ⟨z0, z1⟩ := HQ.out _ Q3.out.2.2.2.2
    have HBw3 := Lib.hid (fun W' (h : Below w3.heap.size w3 W') => Q3.out.2.2.2.2.trans (h.mono Q3.out.2.2.2.2.size))
    have ADw3 := Lib.hid (show w3.drew.cell? ⟨w.heap.size, 0, none⟩ = some (.int .i64 k) ∧ w3.drew.cell? ⟨w.heap.size, 1, none⟩ = some (.slice A n c) ∧ w3.drew.cell? ⟨w.heap.size, 2, none⟩ = some (.slice (some ⟨b, o, none⟩) (m + 1) d) ∧ w3.drew.cell? ⟨b, o, none⟩ = some (.string ⟨ql.toArray⟩) ∧ w3.drew.cell? ⟨b, o + 1, none⟩ = some (.string ⟨qr.toArray⟩) ∧ Below w3.heap.size w3 w3.drew from ⟨cellKeep (Below.refl _ _).drew a0, cellKeep (Below.refl _ _).drew a1, cellKeep (Below.refl _ _).drew a2, cellKeep (Below.refl _ _).drew z0, cellKeep (Below.refl _ _).drew z1, (Below.refl _ _).drew⟩)
    go_region_held3 (fun w' => w'.cell? ⟨w.heap.size, 0, none⟩ = some (.int .i64 k) ∧ w'.cell? ⟨w.heap.size, 1, none⟩ = some (.slice A n c) ∧ w'.cell? ⟨w.heap.size, 2, none⟩ = some (.slice (some ⟨b, o, none⟩) (m + 1) d) ∧ w'.cell? ⟨b, o, none⟩ = some (.string ⟨ql.toArray⟩) ∧ w'.cell? ⟨b, o + 1, none⟩ = some (.string ⟨qr.toArray⟩) ∧ Below w3.heap.size w3 w') (first | exact ADw3.out | assumption | exact heldT (by assumption) hbw4) ((go_simp; go_at_call 96; refine (HT1.out _ (HA.out _ (HBw3.out _ (heldT_below (by assumption))))).mono ?_; rintro e w4 ⟨vw4, rfl, hbw4⟩))
    have BBw4 := Lib.hid (show Below w3.heap.size w3 w4 from heldT_below (by assumption))
    have Q4 := Lib.hid (Q3.out.below BBw4.out)
    have QO4 := Lib.hid (QO2.out.below BBw4.out)
    clear QO2 Q3 Q1 H0 HBw3 ADw3
    try clear hHeld hbw4
    clear a0 a1 a2 a3 z0 z1
    go_wp2_with fail
    obtain ⟨⟨a0, a1, a2, a3⟩, _⟩ := Q4.out
    obtain ⟨z0, z1⟩ := HQ.out _ Q4.out.2.2.2.2
    have HBw4 := Lib.hid (fun W' (h : Below w4.heap.size w4 W') => Q4.out.2.2.2.2.trans (h.mono Q4.out.2.2.2.2.size))
    have ADw4 := Lib.hid (show w4.drew.cell? ⟨w.heap.size, 0, none⟩ = some (.int .i64 k) ∧ w4.drew.cell? ⟨w.heap.size, 1, none⟩ = some (.slice A n c) ∧ w4.drew.cell? ⟨w.heap.size, 2, none⟩ = some (.slice (some ⟨b, o, none⟩) (m + 1) d) ∧ w4.drew.cell? ⟨b, o, none⟩ = some (.string ⟨ql.toArray⟩) ∧ w4.drew.cell? ⟨b, o + 1, none⟩ = some (.string ⟨qr.toArray⟩) ∧ Below w4.heap.size w4 w4.drew from ⟨cellKeep (Below.refl _ _).drew a0, cellKeep (Below.refl _ _).drew a1, cellKeep (Below.refl _ _).drew a2, cellKeep (Below.refl _ _).drew z0, cellKeep (Below.refl _ _).drew z1, (Below.refl _ _).drew⟩)
    go_region_held3 (fun w' => w'.cell? ⟨w.heap.size, 0, none⟩ = some (.int .i64 k) ∧ w'.cell? ⟨w.heap.size, 1, none⟩ = some (.slice A n c) ∧ w'.cell? ⟨w.heap.size, 2, none⟩ = some (.slice (some ⟨b, o, none⟩) (m + 1) d) ∧ w'.cell? ⟨b, o, none⟩ = some (.string ⟨ql.toArray⟩) ∧ w'.cell? ⟨b, o + 1, none⟩ = some (.string ⟨qr.toArray⟩) ∧ Below w4.heap.size w4 w') (first | exact ADw4.out | assumption | exact heldT (by assumption) hbw5) ((go_simp; go_at_call 96; refine (HT2.out _ (HA.out _ (HBw4.out _ (heldT_below (by assumption))))).mono ?_; rintro e w5 ⟨vw5, rfl, hbw5⟩))
    have BBw5 := Lib.hid (show Below w4.heap.size w4 w5 from heldT_below (by assumption))
    have Q5 := Lib.hid (Q4.out.below BBw5.out)
    have QO5 := Lib.hid (QO4.out.below BBw5.out)
    clear QO4 Q4 HBw4 ADw4 BBw4 BBw5 HOK HT1 HT2
    clear a0 a1 a2 a3 z0 z1
    have hsl := fun W => run_tail (P := Try.prog) slRule B2 m d2 QO5.out.2.2.2.1.2.1 W
    have Q6 := Lib.hid ((Q5.out.setAt QO5.out.2.1 2 (.slice (tailA 2 B2 d2) m (d2 - 1))).setAt (g := g) QO5.out.2.1 3 (.int .i64 (t + 1)))
    have QO6 := Lib.hid ((QO5.out.cutQ (by decide)).setT (by decide) (t + 1))
    rw [ruls_drop] at QO6
    obtain ⟨g0, g1, g2, g3⟩ := QO5.out.tab
    have gf := QO5.out.free
    have g3' := (QO5.out.cutQ (by decide)).tab.2.2.2
    have gf3 := (QO5.out.cutQ (by decide)).free 3
    by_cases huv : u = v
    case pos =>
      subst huv
      have hX := HX.out
      rw [if_pos rfl] at hX
      subst hX
      obtain ⟨s0, s1, s2, s3⟩ := QO6.out.tab
      obtain ⟨_, ⟨b0, b1, b2, b3⟩, ⟨f0, f1, f2, f3⟩, _, _⟩ := Q6.out
      have ha6 := QO6.out.2.2.2.2
      go_wp2_with fail
      have hn := HN.out
      have hm := HM.out
      subst hn
      subst hm
      obtain ⟨r1, r2, r3⟩ := Q6.out.fin QO6.out.2.2.1 QO6.out.2.2.2.1 (.int .i64 k) (.slice A2 rs.length c2) (.slice (tailA 2 B2 d2) qt.length (d2 - 1)) (.int .i64 (t + 1))
      obtain ⟨x0, x1, x2, x3⟩ := Q6.out.res (.int .i64 k) (.slice A2 rs.length c2) (.slice (tailA 2 B2 d2) qt.length (d2 - 1)) (.int .i64 (t + 1))
      refine bodyPost_ret (v := .tuple #[.agg #[.int .i64 k, .slice A2 rs.length c2, .slice (tailA 2 B2 d2) qt.length (d2 - 1), .int .i64 (t + 1)], .int .i64 0]) (by simp [results, Try.results42, go_sem, x0, x1, x2, x3]) rfl ⟨A2, c2, tailA 2 B2 d2, d2 - 1, rfl, r1, r2, ha6, r3⟩
    case neg =>
    have huv' : (u == v) = false := by simpa using huv
    have HL := Lib.hid (fun W => spec_IsLess_c u v W (by omega) (by omega))
    have hX := HX.out
    rw [if_neg huv] at hX
    replace hgood := hgood huv
    clear HX QO5 Q5 HQ
    cases hless : M.IsLess u v
    case false =>
      have hor : M.oriented ⟨u, v⟩ = ⟨u, v⟩ := by unfold M.oriented; simp only [hless]; rfl
      rw [hor] at hX hgood
      rw [hless] at HL
      clear hor hless
      generalize u = ra at *
      generalize v = rb at *
      unfold M.turnRule at hX
      simp only at hX hgood
      by_cases h8 : 8 < ra.length
      case pos =>
        rw [if_pos h8] at hX
        subst hX
        have h8' : (8 : Int) < (ra.length : Int) := by omega
        clear hgood HOI HNI HNS HGL h8
        go_wp2_with fail
        refine (HL.out _).mono ?_
        rintro e w6 ⟨rfl, hw6⟩
        have Q7 := Lib.hid (hw6 ▸ Q6.out)
        have QO7 := Lib.hid (hw6 ▸ QO6.out)
        clear hw6 Q6 QO6 HL g0 g1 g2 g3 g3' gf gf3 hsl
        obtain ⟨⟨a0, a1, a2, a3⟩, _⟩ := Q7.out
        go_wp2_with fail
        refine (HCP.out _ (HA.out _ Q7.out.2.2.2.2) (HB.out _ Q7.out.2.2.2.2)).mono ?_
        rintro e w9 ⟨A9, c9, B9, d9, rfl, o1, o2, ha, hb9⟩
        have Q9 := Lib.hid (Q7.out.below hb9)
        have O1 := Lib.hid (o1.mono (base' := w.heap.size + 2) Q7.out.2.2.2.1)
        have O2 := Lib.hid (o2.mono (base' := w.heap.size + 2) Q7.out.2.2.2.1)
        obtain ⟨_, ⟨b0, b1, b2, b3⟩, ⟨f0, f1, f2, f3⟩, _, _⟩ := Q9.out
        clear o1 o2 hb9
        go_wp2_with fail
        have hn := HN.out
        have hm := HM.out
        subst hn
        subst hm
        obtain ⟨r1, r2, r3⟩ := Q9.out.fin O1.out O2.out (.int .i64 k) (.slice A9 rs.length c9) (.slice B9 (qt.length + 1) d9) (.int .i64 (t))
        obtain ⟨x0, x1, x2, x3⟩ := Q9.out.res (.int .i64 k) (.slice A9 rs.length c9) (.slice B9 (qt.length + 1) d9) (.int .i64 (t))
        refine bodyPost_ret (v := .tuple #[.agg #[.int .i64 k, .slice A9 rs.length c9, .slice B9 (qt.length + 1) d9, .int .i64 (t)], .int .i64 1]) (by simp [results, Try.results42, go_sem, x0, x1, x2, x3]) rfl ⟨A9, c9, B9, d9, rfl, r1, r2, ha, r3⟩
      case neg =>
        rw [if_neg h8] at hX
        replace hgood := hgood h8
        have h8' : ¬ ((8 : Int) < (ra.length : Int)) := by omega
        clear h8
        by_cases h13 : 12 < (M.nextRules rs ⟨ra, rb⟩).length
        case pos =>
          rw [if_pos h13] at hX
          subst hX
          have HI := Lib.hid (fun W h => HNI.out W h ⟨ra, rb⟩ (by simp only; omega) (by simp only; omega) h13)
          have hnl : (M.nextBy id (M.kept ra rs) ++ [(⟨ra, rb⟩ : M.Rule)]).length = (M.nextRules rs ⟨ra, rb⟩).length := by rw [next_len]; simp [M.nextBy]
          obtain ⟨NS, hNS⟩ : ∃ NS, NS = M.nextBy id (M.kept ra rs) ++ [(⟨ra, rb⟩ : M.Rule)] := ⟨_, rfl⟩
          simp only at HI
          rw [← hNS] at HI hnl
          rw [← hnl] at h13
          have h13' : (12 : Int) < (NS.length : Int) := by omega
          unfold RetIns at HI
          generalize NS.length = nn at *
          generalize ruls NS = nv at *
          generalize M.gone ra rs = GS at *
          clear hgood HOI HNI HNS HGL h13 hnl hNS
          go_wp2_with fail
          refine (HL.out _).mono ?_
          rintro e w6 ⟨rfl, hw6⟩
          have Q7 := Lib.hid (hw6 ▸ Q6.out)
          have QO7 := Lib.hid (hw6 ▸ QO6.out)
          clear hw6 Q6 QO6 HL g0 g1 g2 g3 g3' gf gf3 hsl
          obtain ⟨⟨a0, a1, a2, a3⟩, _⟩ := Q7.out
          go_wp2_with fail
          refine (HI.out _ (HA.out _ Q7.out.2.2.2.2)).mono ?_
          rintro e w8 ⟨N, cN, R, cR, rfl, _, _, hb8⟩
          have Q8 := Lib.hid (Q7.out.below hb8)
          clear hb8 a0 a1 a2 a3 HI
          obtain ⟨⟨a0, a1, a2, a3⟩, _⟩ := Q8.out
          have al := ref_al w8 (.cells #[.int .i64 k, .slice N nn cN] 28)
          replace a0 := cellKeep al a0
          replace a1 := cellKeep al a1
          replace a2 := cellKeep al a2
          replace a3 := cellKeep al a3
          have Q8' := Lib.hid (Q8.out.below al)
          clear al
          go_wp2_with fail
          refine (HCP.out _ (HA.out _ Q8'.out.2.2.2.2) (HB.out _ Q8'.out.2.2.2.2)).mono ?_
          rintro e w9 ⟨A9, c9, B9, d9, rfl, o1, o2, ha, hb9⟩
          have Q9 := Lib.hid (Q8'.out.below hb9)
          have O1 := Lib.hid (o1.mono (base' := w.heap.size + 2) Q8'.out.2.2.2.1)
          have O2 := Lib.hid (o2.mono (base' := w.heap.size + 2) Q8'.out.2.2.2.1)
          obtain ⟨_, ⟨b0, b1, b2, b3⟩, ⟨f0, f1, f2, f3⟩, _, _⟩ := Q9.out
          clear o1 o2 hb9
          go_wp2_with fail
          have hn := HN.out
          have hm := HM.out
          subst hn
          subst hm
          obtain ⟨r1, r2, r3⟩ := Q9.out.fin O1.out O2.out (.int .i64 k) (.slice A9 rs.length c9) (.slice B9 (qt.length + 1) d9) (.int .i64 (t))
          obtain ⟨x0, x1, x2, x3⟩ := Q9.out.res (.int .i64 k) (.slice A9 rs.length c9) (.slice B9 (qt.length + 1) d9) (.int .i64 (t))
          refine bodyPost_ret (v := .tuple #[.agg #[.int .i64 k, .slice A9 rs.length c9, .slice B9 (qt.length + 1) d9, .int .i64 (t)], .int .i64 2]) (by simp [results, Try.results42, go_sem, x0, x1, x2, x3]) rfl ⟨A9, c9, B9, d9, rfl, r1, r2, ha, r3⟩
        case neg =>
        rw [if_neg h13] at hX
        have HI := Lib.hid (fun W h => HOI.out W h ⟨ra, rb⟩ hgood h13)
        have HPR := Lib.hid (fun W N cN h => l06Pairs_c k N cN (M.nextRules rs ⟨ra, rb⟩) W h (HNS.out ⟨ra, rb⟩ hgood h13))
        have HNP := Lib.hid (show (M.newEqs (M.nextRules rs ⟨ra, rb⟩) (M.pairTo (M.nextRules rs ⟨ra, rb⟩) (M.nextRules rs ⟨ra, rb⟩).length)).length ≤ 13000 from by
          have h1 := to_len8 (rs := M.nextRules rs ⟨ra, rb⟩) (fun i => sides8 (HNS.out ⟨ra, rb⟩ hgood h13)) (by omega) (M.nextRules rs ⟨ra, rb⟩).length
          have h2 := new_len (M.nextRules rs ⟨ra, rb⟩) (M.pairTo (M.nextRules rs ⟨ra, rb⟩) (M.nextRules rs ⟨ra, rb⟩).length)
          omega)
        have h13' : ¬ ((12 : Int) < ((M.nextRules rs ⟨ra, rb⟩).length : Int)) := by omega
        unfold M.nextQueue at hX
        unfold RetIns at HI
        simp only at HI hX
        have hgl := HGL.out ra
        generalize M.nextRules rs ⟨ra, rb⟩ = NS at *
        generalize M.newEqs NS (M.pairTo NS NS.length) = ES at *
        generalize M.gone ra rs = GS at *
        have hok := ruls_one' GS
        have hok2 := ruls_one' ES
        have hnp := HNP.out
        have HX2 := Lib.hid hX
        obtain ⟨nn, hnn⟩ : ∃ nn, nn = NS.length := ⟨_, rfl⟩
        obtain ⟨ng, hng⟩ : ∃ ng, ng = GS.length := ⟨_, rfl⟩
        obtain ⟨np, hnp'⟩ : ∃ np, np = ES.length := ⟨_, rfl⟩
        rw [← hnn] at h13' HI HPR
        rw [← hng] at hgl HI
        rw [← hnp'] at hnp HPR
        have HNN := Lib.hid (And.intro hnn (And.intro hng hnp'))
        clear hgood HOI HNI HNS HGL h13 hX HNP hnn hng hnp'
        go_wp2_with fail
        refine (HL.out _).mono ?_
        rintro e w6 ⟨rfl, hw6⟩
        have Q7 := Lib.hid (hw6 ▸ Q6.out)
        have QO7 := Lib.hid (hw6 ▸ QO6.out)
        clear hw6 Q6 QO6 HL g0 g1 g2 g3 g3' gf gf3 hsl
        obtain ⟨⟨a0, a1, a2, a3⟩, _⟩ := Q7.out
        go_wp2_with fail
        refine (HI.out _ (HA.out _ Q7.out.2.2.2.2)).mono ?_
        rintro e w8 ⟨N, cN, R, cR, rfl, oN, oR, hb8⟩
        have HAP := Lib.hid (show apartS N cN (tailA 2 B2 d2) (d2 - 1) from fun x h1 h2 => by have := (oN.lt x h1).1; have := (QO7.out.2.2.2.1.lt x h2).2; omega)
        have QN := Lib.hid (oN.mono (base' := w.heap.size + 2) Q7.out.2.2.2.1)
        have QR := Lib.hid (oR.mono (base' := w.heap.size + 2) Q7.out.2.2.2.1)
        have Q8 := Lib.hid (Q7.out.below hb8)
        have QO8 := Lib.hid (QO7.out.below hb8)
        clear hb8 a0 a1 a2 a3 HI oN oR Q7 QO7
        have al := ref_al w8 (.cells #[.int .i64 k, .slice N nn cN] 28)
        have Q9 := Lib.hid (Q8.out.below al)
        have QO9 := Lib.hid (QO8.out.below al)
        have QN9 := Lib.hid (QN.out.below al)
        have QR9 := Lib.hid (QR.out.below al)
        have G9 := Lib.hid (show (w8.alloc (.cells #[.int .i64 k, .slice N nn cN] 28)).heap[w8.heap.size]? = some (.cells #[.int .i64 k, .slice N nn cN] 28 (0, 0)) from heap_alloc_new _ _)
        have LT9 := Lib.hid QO8.out.lt
        obtain ⟨g0, g1, g2, g3⟩ := QO9.out.tab
        have gf := QO9.out.free
        clear al Q8 QO8 QN QR
        have QO10 := Lib.hid (QO9.out.setS (by decide) QN9.out HAP.out)
        have g1' := (cell_set_ne (b := g) (o := 0) (.int .i64 k) (Or.inr (by decide))).trans g1
        have g2' := QO10.out.tab.2.2.1
        have gf1 : ((w8.alloc (.cells #[.int .i64 k, .slice N nn cN] 28)).setCell ⟨g, 0, none⟩ (.int .i64 k)).frozen? ⟨g, 1, none⟩ = false := by simpa using gf 1
        have QR10 := Lib.hid ((QR9.out.setApart QO9.out.1 (by decide) 0 (.int .i64 k)).setApart (heap_setCell_same _ g 0 _ _ (.int .i64 k) QO9.out.1) (by decide) 1 (.slice N nn cN))
        have hlo10 := Nat.le_of_lt (Nat.lt_of_le_of_lt QO10.out.2.1 QO10.out.lt)
        have LTG := Lib.hid QO9.out.lt
        go_wp2_with (at_builtin; refine push_off_many rfl _ _ rfl slRule rfl QO10.out.2.2.2.1 rfl QR10.out.own.rd hok hlo10 (by omega) ?_; intro A7 c7 w10 hown7 hg7 hat7; obtain ⟨l7, f7, q7⟩ := QO10.out.more (by decide) hg7 hat7 hown7)
        have Q11 := Lib.hid ((((Q9.out.setAt QO9.out.2.1 0 (.int .i64 k)).setAt QO9.out.2.1 1 (.slice N nn cN)).keep (QO10.out.grow hg7 hlo10) hg7.size).setAt QO9.out.2.1 2 (.slice A7 (m + ng) c7))
        have QO11 := Lib.hid q7
        have G11 := Lib.hid (show (w10.setCell ⟨g, 2, none⟩ (.slice A7 (m + ng) c7)).heap[w8.heap.size]? = some (.cells #[.int .i64 k, .slice N nn cN] 28 (0, 0)) from by
          have hne : w8.heap.size ≠ g := Nat.ne_of_gt LT9.out
          rw [heap_setCell_other w10 ⟨g, 2, none⟩ _ _ (fun e => hne e), hg7.block _ (by simp) (fun e => by
            obtain ⟨cu, h1⟩ := QO10.out.2.2.2.1.type e.symm
            rw [heap_setCell_other _ ⟨g, 1, none⟩ _ _ (fun e => hne e), heap_setCell_other _ ⟨g, 0, none⟩ _ _ (fun e => hne e), G9.out] at h1
            simp at h1), heap_setCell_other _ ⟨g, 1, none⟩ _ _ (fun e => hne e), heap_setCell_other _ ⟨g, 0, none⟩ _ _ (fun e => hne e), G9.out])
        clear l7 f7 q7 hg7 hat7 hown7 g0 g1 g2 g3 gf g1' g2' gf1 hlo10 LTG QO10 QR10 QN9 QR9 HAP G9 Q9 QO9 LT9 hok
        generalize w10.setCell ⟨g, 2, none⟩ (.slice A7 (m + ng) c7) = w11 at *
        generalize w8.heap.size = g9 at *
        have KD := (Below.refl w11.heap.size w11).drew
        have TD : w11.drew.cell? ⟨g, 2, none⟩ = some (.slice A7 (m + ng) c7) ∧ w11.drew.cell? ⟨g9, 0, none⟩ = some (.int .i64 k) ∧ w11.drew.cell? ⟨g9, 1, none⟩ = some (.slice N nn cN) := ⟨cellKeep KD QO11.out.tab.2.2.1, cellKeep KD ((cell_of_row _ _ 0 _ _ _ G11.out).trans rfl), cellKeep KD ((cell_of_row _ _ 1 _ _ _ G11.out).trans rfl)⟩
        have QD := QO11.out.below KD
        refine wp_region_U (fun w' => w'.cell? ⟨g, 2, none⟩ = some (.slice A7 (m + ng) c7) ∧ w'.cell? ⟨g9, 0, none⟩ = some (.int .i64 k) ∧ w'.cell? ⟨g9, 1, none⟩ = some (.slice N nn cN)) 6 (by kernel_rfl) (TD) (fun hHeld => ?_)
        refine takeU (i := 0) (v := ?v1001) rfl (by kernel_rfl) (fun _ _ _ h => h) (Or.inl ⟨by rfl, ?hy1001⟩) (by assumption) ?rest1001
        case hy1001 => (intro w hSw; (try dsimp only at hSw); (first | (go_simp; done) | (go_simp; with_reducible rfl)))
        case rest1001 =>
          try simp only [Act.put, List.setIfInBounds_toArray, List.set_cons_zero, List.set_cons_succ]
          refine takeU (i := 1) (v := ?v1002) rfl (by kernel_rfl) (fun _ _ _ h => h) (Or.inl ⟨by rfl, ?hy1002⟩) (by assumption) ?rest1002
          case hy1002 => (intro w hSw; (try dsimp only at hSw); (first | (go_simp; done) | (go_simp; with_reducible rfl)))
          case rest1002 =>
            try simp only [Act.put, List.setIfInBounds_toArray, List.set_cons_zero, List.set_cons_succ]
            refine takeU (i := 2) (v := ?v1003) rfl (by kernel_rfl) (fun _ _ _ h => h) (Or.inl ⟨by rfl, ?hy1003⟩) (by assumption) ?rest1003
            case hy1003 => (intro w hSw; (try dsimp only at hSw); (first | (go_simp; done) | (go_simp; with_reducible rfl)))
            case rest1003 =>
              try simp only [Act.put, List.setIfInBounds_toArray, List.set_cons_zero, List.set_cons_succ]
              refine wpAnyU_ready (rs := [3]) (by kernel_rfl) (by simp) ?_
              refine consU rfl (fun K hK => ?_) ?_
              · go_simp
                go_at_call 100
                refine (HPR.out _ N cN QD.2.2.1.own.rd).mono ?_
                rintro e w12 ⟨E, cE, rfl, oE, hb12⟩
                have QO12 := QD.below hb12
                have G12 := (hb12.block _ (by have := (Array.getElem?_eq_some_iff.1 G11.out).1; simpa using this)).trans G11.out
                refine hK.out _ _ (⟨cellKeep hb12 TD.1, cellKeep hb12 TD.2.1, cellKeep hb12 TD.2.2⟩) (fun hHeld => ?_)
                clear hK K
                try simp only [Act.put, List.setIfInBounds_toArray, List.set_cons_zero, List.set_cons_succ]
                refine wpAnyU_ready (rs := [4]) (by kernel_rfl) (by simp) ?_
                refine consU rfl (fun K hK => ?_) ?_
                · have hlo12 := Nat.le_of_lt (Nat.lt_of_le_of_lt QO12.2.1 QO12.lt)
                  refine step_push_off rfl (.tmp 100) (.tmp 102) rfl slRule rfl QO12.2.2.2.1 rfl oE.own.rd hok2 hlo12 (by omega) ?_
                  intro A8 c8 w13 hown8 hg8 hat8
                  obtain ⟨l8, f8, q8⟩ := QO12.more (by decide) hg8 hat8 hown8
                  have G13 := (hg8.block _ (Array.getElem?_eq_some_iff.1 G12).1 (fun e => by obtain ⟨cu, h1⟩ := QO12.2.2.2.1.type e.symm; rw [G12] at h1; simp at h1)).trans G12
                  refine hK.out _ _ (⟨l8, (cell_of_row _ _ 0 _ _ _ G13).trans rfl, (cell_of_row _ _ 1 _ _ _ G13).trans rfl⟩) (fun hHeld => ?_)
                  clear hK K
                  try simp only [Act.put, List.setIfInBounds_toArray, List.set_cons_zero, List.set_cons_succ]
                  refine takeU (i := 5) (v := ?v1004) rfl (by kernel_rfl) (fun _ _ _ h => h) (Or.inl ⟨by rfl, ?hy1004⟩) (by assumption) ?rest1004
                  case hy1004 => (intro w hSw; (try dsimp only at hSw); (first | (go_simp; done) | (go_simp; with_reducible rfl)))
                  case rest1004 =>
                    try simp only [Act.put, List.setIfInBounds_toArray, List.set_cons_zero, List.set_cons_succ]
                    refine wpAnyU_ready (rs := [6]) (by kernel_rfl) (by simp) ?_
                    refine lastU rfl (fun K hK => ?_)
                    go_simp
                    refine hK.out _ _ ?_
                    clear hK K
                    try simp only [Act.put, List.setIfInBounds_toArray, List.set_cons_zero, List.set_cons_succ]
                    refine wpAnyU_done (by kernel_rfl) ?_ _
                    have Q13 := Lib.hid ((((Q11.out.below KD).below hb12).keep (QO12.grow hg8 hlo12) hg8.size).setAt QO12.2.1 2 (.slice A8 (m + ng + np) c8))
                    have QO13 := Lib.hid q8
                    have hX := HX2.out
                    obtain ⟨hnn, hng, hnp2⟩ := HNN.out
                    clear KD TD QD hb12 hg8 hat8 hown8 G12 G13 l8 f8 q8 QO12 hlo12 oE G11 QO11 Q11
                    try clear hHeld
                    generalize w13.setCell ⟨g, 2, none⟩ (.slice A8 (m + ng + np) c8) = w14 at *
                    obtain ⟨ZS, hZS⟩ : ∃ ZS, ZS = qt ++ GS ++ ES := ⟨_, rfl⟩
                    have hzl : ZS.length = m + ng + np := by rw [hZS, List.length_append, List.length_append, hng, hnp2, HM.out]
                    have hzr : ruls ZS = ruls qt ++ ruls GS ++ ruls ES := by rw [hZS]; simp [ruls]
                    rw [← hZS] at hX
                    rw [← hzr] at QO13
                    clear hZS hzr hnn hng hnp2
                    by_cases h4 : 400 < ZS.length
                    case pos =>
                      rw [if_pos h4] at hX
                      subst hX
                      have h4' : (400 : Int) < (m : Int) + ng + np := by omega
                      obtain ⟨⟨a0, a1, a2, a3⟩, _⟩ := Q13.out
                      obtain ⟨s0, s1, s2, s3⟩ := QO13.out.tab
                      go_wp2_with fail
                      refine (HCP.out _ (HA.out _ Q13.out.2.2.2.2) (HB.out _ Q13.out.2.2.2.2)).mono ?_
                      rintro e w9 ⟨A9, c9, B9, d9, rfl, o1, o2, ha, hb9⟩
                      have Q9 := Lib.hid (Q13.out.below hb9)
                      have O1 := Lib.hid (o1.mono (base' := w.heap.size + 2) Q13.out.2.2.2.1)
                      have O2 := Lib.hid (o2.mono (base' := w.heap.size + 2) Q13.out.2.2.2.1)
                      obtain ⟨_, ⟨b0, b1, b2, b3⟩, ⟨f0, f1, f2, f3⟩, _, _⟩ := Q9.out
                      clear o1 o2 hb9
                      go_wp2_with fail
                      have hn := HN.out
                      have hm := HM.out
                      subst hn
                      subst hm
                      obtain ⟨r1, r2, r3⟩ := Q9.out.fin O1.out O2.out (.int .i64 k) (.slice A9 rs.length c9) (.slice B9 (qt.length + 1) d9) (.int .i64 (t))
                      obtain ⟨x0, x1, x2, x3⟩ := Q9.out.res (.int .i64 k) (.slice A9 rs.length c9) (.slice B9 (qt.length + 1) d9) (.int .i64 (t))
                      refine bodyPost_ret (v := .tuple #[.agg #[.int .i64 k, .slice A9 rs.length c9, .slice B9 (qt.length + 1) d9, .int .i64 (t)], .int .i64 2]) (by simp [results, Try.results42, go_sem, x0, x1, x2, x3]) rfl ⟨A9, c9, B9, d9, rfl, r1, r2, ha, r3⟩
                    case neg =>
                      rw [if_neg h4] at hX
                      subst hX
                      have h4' : ¬ ((400 : Int) < (m : Int) + ng + np) := by omega
                      obtain ⟨s0, s1, s2, s3⟩ := QO13.out.tab
                      obtain ⟨_, ⟨b0, b1, b2, b3⟩, ⟨f0, f1, f2, f3⟩, _, _⟩ := Q13.out
                      have ha := QO13.out.2.2.2.2
                      go_wp2_with fail
                      have hnn := HNN.out.1
                      subst hnn
                      rw [← hzl] at QO13 ⊢
                      obtain ⟨r1, r2, r3⟩ := Q13.out.fin QO13.out.2.2.1 QO13.out.2.2.2.1 (.int .i64 k) (.slice N NS.length cN) (.slice A8 ZS.length c8) (.int .i64 (t + 1))
                      obtain ⟨x0, x1, x2, x3⟩ := Q13.out.res (.int .i64 k) (.slice N NS.length cN) (.slice A8 ZS.length c8) (.int .i64 (t + 1))
                      refine bodyPost_ret (v := .tuple #[.agg #[.int .i64 k, .slice N NS.length cN, .slice A8 ZS.length c8, .int .i64 (t + 1)], .int .i64 0]) (by simp [results, Try.results42, go_sem, x0, x1, x2, x3]) rfl ⟨N, cN, A8, c8, rfl, r1, r2, ha, r3⟩
                exact AllU.nil
              exact AllU.nil
    case true =>
      have hor : M.oriented ⟨u, v⟩ = ⟨v, u⟩ := by unfold M.oriented; simp only [hless]; rfl
      rw [hor] at hX hgood
      rw [hless] at HL
      clear hor hless
      generalize v = ra at *
      generalize u = rb at *
      unfold M.turnRule at hX
      simp only at hX hgood
      by_cases h8 : 8 < ra.length
      case pos =>
        rw [if_pos h8] at hX
        subst hX
        have h8' : (8 : Int) < (ra.length : Int) := by omega
        clear hgood HOI HNI HNS HGL h8
        go_wp2_with fail
        refine (HL.out _).mono ?_
        rintro e w6 ⟨rfl, hw6⟩
        have Q7 := Lib.hid (hw6 ▸ Q6.out)
        have QO7 := Lib.hid (hw6 ▸ QO6.out)
        clear hw6 Q6 QO6 HL g0 g1 g2 g3 g3' gf gf3 hsl
        obtain ⟨⟨a0, a1, a2, a3⟩, _⟩ := Q7.out
        go_wp2_with fail
        refine (l06Swap_c _ _ _).mono ?_
        rintro e w7 ⟨rfl, rfl⟩
        go_wp2_with fail
        refine (HCP.out _ (HA.out _ Q7.out.2.2.2.2) (HB.out _ Q7.out.2.2.2.2)).mono ?_
        rintro e w9 ⟨A9, c9, B9, d9, rfl, o1, o2, ha, hb9⟩
        have Q9 := Lib.hid (Q7.out.below hb9)
        have O1 := Lib.hid (o1.mono (base' := w.heap.size + 2) Q7.out.2.2.2.1)
        have O2 := Lib.hid (o2.mono (base' := w.heap.size + 2) Q7.out.2.2.2.1)
        obtain ⟨_, ⟨b0, b1, b2, b3⟩, ⟨f0, f1, f2, f3⟩, _, _⟩ := Q9.out
        clear o1 o2 hb9
        go_wp2_with fail
        have hn := HN.out
        have hm := HM.out
        subst hn
        subst hm
        obtain ⟨r1, r2, r3⟩ := Q9.out.fin O1.out O2.out (.int .i64 k) (.slice A9 rs.length c9) (.slice B9 (qt.length + 1) d9) (.int .i64 (t))
        obtain ⟨x0, x1, x2, x3⟩ := Q9.out.res (.int .i64 k) (.slice A9 rs.length c9) (.slice B9 (qt.length + 1) d9) (.int .i64 (t))
        refine bodyPost_ret (v := .tuple #[.agg #[.int .i64 k, .slice A9 rs.length c9, .slice B9 (qt.length + 1) d9, .int .i64 (t)], .int .i64 1]) (by simp [results, Try.results42, go_sem, x0, x1, x2, x3]) rfl ⟨A9, c9, B9, d9, rfl, r1, r2, ha, r3⟩
      case neg =>
        rw [if_neg h8] at hX
        replace hgood := hgood h8
        have h8' : ¬ ((8 : Int) < (ra.length : Int)) := by omega
        clear h8
        by_cases h13 : 12 < (M.nextRules rs ⟨ra, rb⟩).length
        case pos =>
          rw [if_pos h13] at hX
          subst hX
          have HI := Lib.hid (fun W h => HNI.out W h ⟨ra, rb⟩ (by simp only; omega) (by simp only; omega) h13)
          have hnl : (M.nextBy id (M.kept ra rs) ++ [(⟨ra, rb⟩ : M.Rule)]).length = (M.nextRules rs ⟨ra, rb⟩).length := by rw [next_len]; simp [M.nextBy]
          obtain ⟨NS, hNS⟩ : ∃ NS, NS = M.nextBy id (M.kept ra rs) ++ [(⟨ra, rb⟩ : M.Rule)] := ⟨_, rfl⟩
          simp only at HI
          rw [← hNS] at HI hnl
          rw [← hnl] at h13
          have h13' : (12 : Int) < (NS.length : Int) := by omega
          unfold RetIns at HI
          generalize NS.length = nn at *
          generalize ruls NS = nv at *
          generalize M.gone ra rs = GS at *
          clear hgood HOI HNI HNS HGL h13 hnl hNS
          go_wp2_with fail
          refine (HL.out _).mono ?_
          rintro e w6 ⟨rfl, hw6⟩
          have Q7 := Lib.hid (hw6 ▸ Q6.out)
          have QO7 := Lib.hid (hw6 ▸ QO6.out)
          clear hw6 Q6 QO6 HL g0 g1 g2 g3 g3' gf gf3 hsl
          obtain ⟨⟨a0, a1, a2, a3⟩, _⟩ := Q7.out
          go_wp2_with fail
          refine (l06Swap_c _ _ _).mono ?_
          rintro e w7 ⟨rfl, rfl⟩
          go_wp2_with fail
          refine (HI.out _ (HA.out _ Q7.out.2.2.2.2)).mono ?_
          rintro e w8 ⟨N, cN, R, cR, rfl, _, _, hb8⟩
          have Q8 := Lib.hid (Q7.out.below hb8)
          clear hb8 a0 a1 a2 a3 HI
          obtain ⟨⟨a0, a1, a2, a3⟩, _⟩ := Q8.out
          have al := ref_al w8 (.cells #[.int .i64 k, .slice N nn cN] 28)
          replace a0 := cellKeep al a0
          replace a1 := cellKeep al a1
          replace a2 := cellKeep al a2
          replace a3 := cellKeep al a3
          have Q8' := Lib.hid (Q8.out.below al)
          clear al
          go_wp2_with fail
          refine (HCP.out _ (HA.out _ Q8'.out.2.2.2.2) (HB.out _ Q8'.out.2.2.2.2)).mono ?_
          rintro e w9 ⟨A9, c9, B9, d9, rfl, o1, o2, ha, hb9⟩
          have Q9 := Lib.hid (Q8'.out.below hb9)
          have O1 := Lib.hid (o1.mono (base' := w.heap.size + 2) Q8'.out.2.2.2.1)
          have O2 := Lib.hid (o2.mono (base' := w.heap.size + 2) Q8'.out.2.2.2.1)
          obtain ⟨_, ⟨b0, b1, b2, b3⟩, ⟨f0, f1, f2, f3⟩, _, _⟩ := Q9.out
          clear o1 o2 hb9
          go_wp2_with fail
          have hn := HN.out
          have hm := HM.out
          subst hn
          subst hm
          obtain ⟨r1, r2, r3⟩ := Q9.out.fin O1.out O2.out (.int .i64 k) (.slice A9 rs.length c9) (.slice B9 (qt.length + 1) d9) (.int .i64 (t))
          obtain ⟨x0, x1, x2, x3⟩ := Q9.out.res (.int .i64 k) (.slice A9 rs.length c9) (.slice B9 (qt.length + 1) d9) (.int .i64 (t))
          refine bodyPost_ret (v := .tuple #[.agg #[.int .i64 k, .slice A9 rs.length c9, .slice B9 (qt.length + 1) d9, .int .i64 (t)], .int .i64 2]) (by simp [results, Try.results42, go_sem, x0, x1, x2, x3]) rfl ⟨A9, c9, B9, d9, rfl, r1, r2, ha, r3⟩
        case neg =>
        rw [if_neg h13] at hX
        have HI := Lib.hid (fun W h => HOI.out W h ⟨ra, rb⟩ hgood h13)
        have HPR := Lib.hid (fun W N cN h => l06Pairs_c k N cN (M.nextRules rs ⟨ra, rb⟩) W h (HNS.out ⟨ra, rb⟩ hgood h13))
        have HNP := Lib.hid (show (M.newEqs (M.nextRules rs ⟨ra, rb⟩) (M.pairTo (M.nextRules rs ⟨ra, rb⟩) (M.nextRules rs ⟨ra, rb⟩).length)).length ≤ 13000 from by
          have h1 := to_len8 (rs := M.nextRules rs ⟨ra, rb⟩) (fun i => sides8 (HNS.out ⟨ra, rb⟩ hgood h13)) (by omega) (M.nextRules rs ⟨ra, rb⟩).length
          have h2 := new_len (M.nextRules rs ⟨ra, rb⟩) (M.pairTo (M.nextRules rs ⟨ra, rb⟩) (M.nextRules rs ⟨ra, rb⟩).length)
          omega)
        have h13' : ¬ ((12 : Int) < ((M.nextRules rs ⟨ra, rb⟩).length : Int)) := by omega
        unfold M.nextQueue at hX
        unfold RetIns at HI
        simp only at HI hX
        have hgl := HGL.out ra
        generalize M.nextRules rs ⟨ra, rb⟩ = NS at *
        generalize M.newEqs NS (M.pairTo NS NS.length) = ES at *
        generalize M.gone ra rs = GS at *
        have hok := ruls_one' GS
        have hok2 := ruls_one' ES
        have hnp := HNP.out
        have HX2 := Lib.hid hX
        obtain ⟨nn, hnn⟩ : ∃ nn, nn = NS.length := ⟨_, rfl⟩
        obtain ⟨ng, hng⟩ : ∃ ng, ng = GS.length := ⟨_, rfl⟩
        obtain ⟨np, hnp'⟩ : ∃ np, np = ES.length := ⟨_, rfl⟩
        rw [← hnn] at h13' HI HPR
        rw [← hng] at hgl HI
        rw [← hnp'] at hnp HPR
        have HNN := Lib.hid (And.intro hnn (And.intro hng hnp'))
        clear hgood HOI HNI HNS HGL h13 hX HNP hnn hng hnp'
        go_wp2_with fail
        refine (HL.out _).mono ?_
        rintro e w6 ⟨rfl, hw6⟩
        have Q7 := Lib.hid (hw6 ▸ Q6.out)
        have QO7 := Lib.hid (hw6 ▸ QO6.out)
        clear hw6 Q6 QO6 HL g0 g1 g2 g3 g3' gf gf3 hsl
        obtain ⟨⟨a0, a1, a2, a3⟩, _⟩ := Q7.out
        go_wp2_with fail
        refine (l06Swap_c _ _ _).mono ?_
        rintro e w7 ⟨rfl, rfl⟩
        go_wp2_with fail
        refine (HI.out _ (HA.out _ Q7.out.2.2.2.2)).mono ?_
        rintro e w8 ⟨N, cN, R, cR, rfl, oN, oR, hb8⟩
        have HAP := Lib.hid (show apartS N cN (tailA 2 B2 d2) (d2 - 1) from fun x h1 h2 => by have := (oN.lt x h1).1; have := (QO7.out.2.2.2.1.lt x h2).2; omega)
        have QN := Lib.hid (oN.mono (base' := w.heap.size + 2) Q7.out.2.2.2.1)
        have QR := Lib.hid (oR.mono (base' := w.heap.size + 2) Q7.out.2.2.2.1)
        have Q8 := Lib.hid (Q7.out.below hb8)
        have QO8 := Lib.hid (QO7.out.below hb8)
        clear hb8 a0 a1 a2 a3 HI oN oR Q7 QO7
        have al := ref_al w8 (.cells #[.int .i64 k, .slice N nn cN] 28)
        have Q9 := Lib.hid (Q8.out.below al)
        have QO9 := Lib.hid (QO8.out.below al)
        have QN9 := Lib.hid (QN.out.below al)
        have QR9 := Lib.hid (QR.out.below al)
        have G9 := Lib.hid (show (w8.alloc (.cells #[.int .i64 k, .slice N nn cN] 28)).heap[w8.heap.size]? = some (.cells #[.int .i64 k, .slice N nn cN] 28 (0, 0)) from heap_alloc_new _ _)
        have LT9 := Lib.hid QO8.out.lt
        obtain ⟨g0, g1, g2, g3⟩ := QO9.out.tab
        have gf := QO9.out.free
        clear al Q8 QO8 QN QR
        have QO10 := Lib.hid (QO9.out.setS (by decide) QN9.out HAP.out)
        have g1' := (cell_set_ne (b := g) (o := 0) (.int .i64 k) (Or.inr (by decide))).trans g1
        have g2' := QO10.out.tab.2.2.1
        have gf1 : ((w8.alloc (.cells #[.int .i64 k, .slice N nn cN] 28)).setCell ⟨g, 0, none⟩ (.int .i64 k)).frozen? ⟨g, 1, none⟩ = false := by simpa using gf 1
        have QR10 := Lib.hid ((QR9.out.setApart QO9.out.1 (by decide) 0 (.int .i64 k)).setApart (heap_setCell_same _ g 0 _ _ (.int .i64 k) QO9.out.1) (by decide) 1 (.slice N nn cN))
        have hlo10 := Nat.le_of_lt (Nat.lt_of_le_of_lt QO10.out.2.1 QO10.out.lt)
        have LTG := Lib.hid QO9.out.lt
        go_wp2_with (at_builtin; refine push_off_many rfl _ _ rfl slRule rfl QO10.out.2.2.2.1 rfl QR10.out.own.rd hok hlo10 (by omega) ?_; intro A7 c7 w10 hown7 hg7 hat7; obtain ⟨l7, f7, q7⟩ := QO10.out.more (by decide) hg7 hat7 hown7)
        have Q11 := Lib.hid ((((Q9.out.setAt QO9.out.2.1 0 (.int .i64 k)).setAt QO9.out.2.1 1 (.slice N nn cN)).keep (QO10.out.grow hg7 hlo10) hg7.size).setAt QO9.out.2.1 2 (.slice A7 (m + ng) c7))
        have QO11 := Lib.hid q7
        have G11 := Lib.hid (show (w10.setCell ⟨g, 2, none⟩ (.slice A7 (m + ng) c7)).heap[w8.heap.size]? = some (.cells #[.int .i64 k, .slice N nn cN] 28 (0, 0)) from by
          have hne : w8.heap.size ≠ g := Nat.ne_of_gt LT9.out
          rw [heap_setCell_other w10 ⟨g, 2, none⟩ _ _ (fun e => hne e), hg7.block _ (by simp) (fun e => by
            obtain ⟨cu, h1⟩ := QO10.out.2.2.2.1.type e.symm
            rw [heap_setCell_other _ ⟨g, 1, none⟩ _ _ (fun e => hne e), heap_setCell_other _ ⟨g, 0, none⟩ _ _ (fun e => hne e), G9.out] at h1
            simp at h1), heap_setCell_other _ ⟨g, 1, none⟩ _ _ (fun e => hne e), heap_setCell_other _ ⟨g, 0, none⟩ _ _ (fun e => hne e), G9.out])
        clear l7 f7 q7 hg7 hat7 hown7 g0 g1 g2 g3 gf g1' g2' gf1 hlo10 LTG QO10 QR10 QN9 QR9 HAP G9 Q9 QO9 LT9 hok
        generalize w10.setCell ⟨g, 2, none⟩ (.slice A7 (m + ng) c7) = w11 at *
        generalize w8.heap.size = g9 at *
        have KD := (Below.refl w11.heap.size w11).drew
        have TD : w11.drew.cell? ⟨g, 2, none⟩ = some (.slice A7 (m + ng) c7) ∧ w11.drew.cell? ⟨g9, 0, none⟩ = some (.int .i64 k) ∧ w11.drew.cell? ⟨g9, 1, none⟩ = some (.slice N nn cN) := ⟨cellKeep KD QO11.out.tab.2.2.1, cellKeep KD ((cell_of_row _ _ 0 _ _ _ G11.out).trans rfl), cellKeep KD ((cell_of_row _ _ 1 _ _ _ G11.out).trans rfl)⟩
        have QD := QO11.out.below KD
        refine wp_region_U (fun w' => w'.cell? ⟨g, 2, none⟩ = some (.slice A7 (m + ng) c7) ∧ w'.cell? ⟨g9, 0, none⟩ = some (.int .i64 k) ∧ w'.cell? ⟨g9, 1, none⟩ = some (.slice N nn cN)) 6 (by kernel_rfl) (TD) (fun hHeld => ?_)
        refine takeU (i := 0) (v := ?v2001) rfl (by kernel_rfl) (fun _ _ _ h => h) (Or.inl ⟨by rfl, ?hy2001⟩) (by assumption) ?rest2001
        case hy2001 => (intro w hSw; (try dsimp only at hSw); (first | (go_simp; done) | (go_simp; with_reducible rfl)))
        case rest2001 =>
          try simp only [Act.put, List.setIfInBounds_toArray, List.set_cons_zero, List.set_cons_succ]
          refine takeU (i := 1) (v := ?v2002) rfl (by kernel_rfl) (fun _ _ _ h => h) (Or.inl ⟨by rfl, ?hy2002⟩) (by assumption) ?rest2002
          case hy2002 => (intro w hSw; (try dsimp only at hSw); (first | (go_simp; done) | (go_simp; with_reducible rfl)))
          case rest2002 =>
            try simp only [Act.put, List.setIfInBounds_toArray, List.set_cons_zero, List.set_cons_succ]
            refine takeU (i := 2) (v := ?v2003) rfl (by kernel_rfl) (fun _ _ _ h => h) (Or.inl ⟨by rfl, ?hy2003⟩) (by assumption) ?rest2003
            case hy2003 => (intro w hSw; (try dsimp only at hSw); (first | (go_simp; done) | (go_simp; with_reducible rfl)))
            case rest2003 =>
              try simp only [Act.put, List.setIfInBounds_toArray, List.set_cons_zero, List.set_cons_succ]
              refine wpAnyU_ready (rs := [3]) (by kernel_rfl) (by simp) ?_
              refine consU rfl (fun K hK => ?_) ?_
              · go_simp
                go_at_call 100
                refine (HPR.out _ N cN QD.2.2.1.own.rd).mono ?_
                rintro e w12 ⟨E, cE, rfl, oE, hb12⟩
                have QO12 := QD.below hb12
                have G12 := (hb12.block _ (by have := (Array.getElem?_eq_some_iff.1 G11.out).1; simpa using this)).trans G11.out
                refine hK.out _ _ (⟨cellKeep hb12 TD.1, cellKeep hb12 TD.2.1, cellKeep hb12 TD.2.2⟩) (fun hHeld => ?_)
                clear hK K
                try simp only [Act.put, List.setIfInBounds_toArray, List.set_cons_zero, List.set_cons_succ]
                refine wpAnyU_ready (rs := [4]) (by kernel_rfl) (by simp) ?_
                refine consU rfl (fun K hK => ?_) ?_
                · have hlo12 := Nat.le_of_lt (Nat.lt_of_le_of_lt QO12.2.1 QO12.lt)
                  refine step_push_off rfl (.tmp 100) (.tmp 102) rfl slRule rfl QO12.2.2.2.1 rfl oE.own.rd hok2 hlo12 (by omega) ?_
                  intro A8 c8 w13 hown8 hg8 hat8
                  obtain ⟨l8, f8, q8⟩ := QO12.more (by decide) hg8 hat8 hown8
                  have G13 := (hg8.block _ (Array.getElem?_eq_some_iff.1 G12).1 (fun e => by obtain ⟨cu, h1⟩ := QO12.2.2.2.1.type e.symm; rw [G12] at h1; simp at h1)).trans G12
                  refine hK.out _ _ (⟨l8, (cell_of_row _ _ 0 _ _ _ G13).trans rfl, (cell_of_row _ _ 1 _ _ _ G13).trans rfl⟩) (fun hHeld => ?_)
                  clear hK K
                  try simp only [Act.put, List.setIfInBounds_toArray, List.set_cons_zero, List.set_cons_succ]
                  refine takeU (i := 5) (v := ?v2004) rfl (by kernel_rfl) (fun _ _ _ h => h) (Or.inl ⟨by rfl, ?hy2004⟩) (by assumption) ?rest2004
                  case hy2004 => (intro w hSw; (try dsimp only at hSw); (first | (go_simp; done) | (go_simp; with_reducible rfl)))
                  case rest2004 =>
                    try simp only [Act.put, List.setIfInBounds_toArray, List.set_cons_zero, List.set_cons_succ]
                    refine wpAnyU_ready (rs := [6]) (by kernel_rfl) (by simp) ?_
                    refine lastU rfl (fun K hK => ?_)
                    go_simp
                    refine hK.out _ _ ?_
                    clear hK K
                    try simp only [Act.put, List.setIfInBounds_toArray, List.set_cons_zero, List.set_cons_succ]
                    refine wpAnyU_done (by kernel_rfl) ?_ _
                    have Q13 := Lib.hid ((((Q11.out.below KD).below hb12).keep (QO12.grow hg8 hlo12) hg8.size).setAt QO12.2.1 2 (.slice A8 (m + ng + np) c8))
                    have QO13 := Lib.hid q8
                    have hX := HX2.out
                    obtain ⟨hnn, hng, hnp2⟩ := HNN.out
                    clear KD TD QD hb12 hg8 hat8 hown8 G12 G13 l8 f8 q8 QO12 hlo12 oE G11 QO11 Q11
                    try clear hHeld
                    generalize w13.setCell ⟨g, 2, none⟩ (.slice A8 (m + ng + np) c8) = w14 at *
                    obtain ⟨ZS, hZS⟩ : ∃ ZS, ZS = qt ++ GS ++ ES := ⟨_, rfl⟩
                    have hzl : ZS.length = m + ng + np := by rw [hZS, List.length_append, List.length_append, hng, hnp2, HM.out]
                    have hzr : ruls ZS = ruls qt ++ ruls GS ++ ruls ES := by rw [hZS]; simp [ruls]
                    rw [← hZS] at hX
                    rw [← hzr] at QO13
                    clear hZS hzr hnn hng hnp2
                    by_cases h4 : 400 < ZS.length
                    case pos =>
                      rw [if_pos h4] at hX
                      subst hX
                      have h4' : (400 : Int) < (m : Int) + ng + np := by omega
                      obtain ⟨⟨a0, a1, a2, a3⟩, _⟩ := Q13.out
                      obtain ⟨s0, s1, s2, s3⟩ := QO13.out.tab
                      go_wp2_with fail
                      refine (HCP.out _ (HA.out _ Q13.out.2.2.2.2) (HB.out _ Q13.out.2.2.2.2)).mono ?_
                      rintro e w9 ⟨A9, c9, B9, d9, rfl, o1, o2, ha, hb9⟩
                      have Q9 := Lib.hid (Q13.out.below hb9)
                      have O1 := Lib.hid (o1.mono (base' := w.heap.size + 2) Q13.out.2.2.2.1)
                      have O2 := Lib.hid (o2.mono (base' := w.heap.size + 2) Q13.out.2.2.2.1)
                      obtain ⟨_, ⟨b0, b1, b2, b3⟩, ⟨f0, f1, f2, f3⟩, _, _⟩ := Q9.out
                      clear o1 o2 hb9
                      go_wp2_with fail
                      have hn := HN.out
                      have hm := HM.out
                      subst hn
                      subst hm
                      obtain ⟨r1, r2, r3⟩ := Q9.out.fin O1.out O2.out (.int .i64 k) (.slice A9 rs.length c9) (.slice B9 (qt.length + 1) d9) (.int .i64 (t))
                      obtain ⟨x0, x1, x2, x3⟩ := Q9.out.res (.int .i64 k) (.slice A9 rs.length c9) (.slice B9 (qt.length + 1) d9) (.int .i64 (t))
                      refine bodyPost_ret (v := .tuple #[.agg #[.int .i64 k, .slice A9 rs.length c9, .slice B9 (qt.length + 1) d9, .int .i64 (t)], .int .i64 2]) (by simp [results, Try.results42, go_sem, x0, x1, x2, x3]) rfl ⟨A9, c9, B9, d9, rfl, r1, r2, ha, r3⟩
                    case neg =>
                      rw [if_neg h4] at hX
                      subst hX
                      have h4' : ¬ ((400 : Int) < (m : Int) + ng + np) := by omega
                      obtain ⟨s0, s1, s2, s3⟩ := QO13.out.tab
                      obtain ⟨_, ⟨b0, b1, b2, b3⟩, ⟨f0, f1, f2, f3⟩, _, _⟩ := Q13.out
                      have ha := QO13.out.2.2.2.2
                      go_wp2_with fail
                      have hnn := HNN.out.1
                      subst hnn
                      rw [← hzl] at QO13 ⊢
                      obtain ⟨r1, r2, r3⟩ := Q13.out.fin QO13.out.2.2.1 QO13.out.2.2.2.1 (.int .i64 k) (.slice N NS.length cN) (.slice A8 ZS.length c8) (.int .i64 (t + 1))
                      obtain ⟨x0, x1, x2, x3⟩ := Q13.out.res (.int .i64 k) (.slice N NS.length cN) (.slice A8 ZS.length c8) (.int .i64 (t + 1))
                      refine bodyPost_ret (v := .tuple #[.agg #[.int .i64 k, .slice N NS.length cN, .slice A8 ZS.length c8, .int .i64 (t + 1)], .int .i64 0]) (by simp [results, Try.results42, go_sem, x0, x1, x2, x3]) rfl ⟨N, cN, A8, c8, rfl, r1, r2, ha, r3⟩
                exact AllU.nil
              exact AllU.nil
end Go.Proofs.Ytlohpphmamapeaa
/-
  The marking of a work without rules; slices of rules, opened.
  Conditions: at most 2^20 equations.
-/
namespace Go.Proofs.Ytlohpphmamapeaa
open Go.ChangeShapes Go.WideShapes Go.ChangeAt Go.RowKit Go.Joins Go.Deep
set_option linter.unusedVariables false

theorem own_none {w : World} {base size : Nat} : Own w base size none 0 [] := ⟨by simp, fun h => absurd h (by simp)⟩
theorem eqWork0_t (k : Int) (B : Option Addr) (d : Nat) (qs : List M.Rule) (t : Int) (B' : Option Addr) (d' : Nat) (w : World) (hB : Rd w 2 B qs.length (ruls qs)) (hB' : Rd w 2 B' qs.length (ruls qs)) (hql : qs.length ≤ 1099511627776) :
    Calls Try.prog 45 #[.agg #[.int .i64 k, .slice none 0 0, .slice B qs.length d, .int .i64 t], .agg #[.int .i64 k, .slice none 0 0, .slice B' qs.length d', .int .i64 t]] w fun e w' => e = .returned (.bool true) ∧ Below w.heap.size w w' :=
  eqWork_t k none 0 [] B d qs t none 0 B' d' w Rd.none_ hB Rd.none_ hB' (by simp) hql
set_option maxRecDepth 100000 in
set_option maxHeartbeats 1000000 in
theorem markWork0_c (k : Int) (A : Option Addr) (n c base : Nat) (cs : List Value) (t q : Int) (w : World) (hA : Own w base 2 A n cs) (hn : n ≤ 13000000) (hq0 : 1 ≤ q) (hq : q ≤ 1048578) :
    Calls Try.prog 46 #[.agg #[.int .i64 k, .slice none 0 0, .slice A n c, .int .i64 t], .int .i64 q] w fun e w' => e = .returned (.int .i64 (q + (n : Int) * 2)) ∧ Own w' base 2 A n (ruls (markedRule q n)) ∧ w.grownBy w' (blk A n) := by
  have hp := fun (o : Obj) => (Below.refl w.heap.size w).alloc (Nat.le_refl _) o
  have h0' : ∀ W, Calls Try.prog 19 #[.agg #[.int .i64 k, .slice none 0 0], .int .i64 q] W (fun e w' => e = .returned (.int .i64 q) ∧ W.grownBy w' none) := fun W => (markSystem_c k none 0 0 0 [] q W own_none (by omega) hq0 hq).mono fun _ _ h => ⟨h.1.trans (by simp), by simpa [blk] using h.2.2⟩
  have h0 := Lib.hid h0'
  clear h0'
  have h1 := Lib.hid (fun W h => markRuleS_c A n c base cs q W h hn hq0 hq)
  have HA := Lib.hid hA
  have HP := Lib.hid (fun o => grown_of_below (hp o) (blk A n))
  have HP2 := Lib.hid hp
  clear hA hp
  go_enter Try.func46, Try.ntmps46
  go_wp2_with fail
  refine (h0.out _).mono ?_
  rintro e w1 ⟨rfl, hg⟩
  have c2 : w1.cell? ⟨w.heap.size, 2, none⟩ = some (.slice A n c) := cellGrown hg (by simp [go_sem]) (by simp)
  have HG := Lib.hid hg
  have HO := Lib.hid ((HA.out.below (HP2.out _)).grown hg (by simp))
  clear hg
  go_wp2_with fail
  refine (h1.out _ HO.out).mono ?_
  rintro e w2 ⟨rfl, ho, hg⟩
  have HO2 := Lib.hid ho
  have HG2 := Lib.hid (((HP.out _).trans ⟨HG.out.os, HG.out.tape, HG.out.output, HG.out.size, fun k hk _ => HG.out.block k hk (by simp)⟩).trans hg)
  clear ho hg
  go_wp2_with fail
  go_ret
  exact ⟨rfl, HO2.out, HG2.out⟩
set_option maxRecDepth 100000 in
set_option maxHeartbeats 1000000 in
theorem heldWork0_c (k : Int) (A : Option Addr) (n c : Nat) (t q : Int) (w : World) (hA : Rd w 2 A n (ruls (markedRule q n))) (hn : n ≤ 13000000) (hq0 : 1 ≤ q) (hq : q ≤ 1048578) :
    Calls Try.prog 47 #[.agg #[.int .i64 k, .slice none 0 0, .slice A n c, .int .i64 t], .int .i64 q] w fun e w' => e = .returned (.int .i64 (q + (n : Int) * 2)) ∧ Below w.heap.size w w' := by
  have hp := fun (o : Obj) => (Below.refl w.heap.size w).alloc (Nat.le_refl _) o
  have h0' : ∀ W, Calls Try.prog 20 #[.agg #[.int .i64 k, .slice none 0 0], .int .i64 q] W (fun e w' => e = .returned (.int .i64 q) ∧ Below W.heap.size W w') := fun W => (heldSystem_c k none 0 0 q W Rd.none_ (by omega) hq0 hq).mono fun _ _ h => ⟨h.1.trans (by simp), h.2⟩
  have h0 := Lib.hid h0'
  clear h0'
  have h1 := Lib.hid (fun W h => heldRuleS_c A n c q W h hn hq0 hq)
  have HA := Lib.hid hA
  have hneg : ¬ (q < 0) := by omega
  have hneg2 : ¬ (q + (n : Int) * 2 < 0) := by omega
  clear hA hp
  go_enter Try.func47, Try.ntmps47
  go_wp2_with fail
  refine (h0.out _).mono ?_
  rintro e w1 ⟨rfl, hb⟩
  have c2 : w1.cell? ⟨w.heap.size, 2, none⟩ = some (.slice A n c) := cellKeep hb (by simp [go_sem])
  have HB := Lib.hid (below_alloc1 hb)
  clear hb
  go_wp2_with fail
  refine (h1.out _ (HA.out.below HB.out)).mono ?_
  rintro e w2 ⟨rfl, hb2⟩
  have HB2 := Lib.hid (HB.out.trans (hb2.mono HB.out.size))
  clear hb2
  go_wp2_with fail
  go_ret
  exact ⟨rfl, HB2.out⟩
section
variable {H : Type} {enc : TypeId × Value → H} {w : World} {b0 : Nat} {held : Bool} {spare : Nat → Bool} {v : Value} {d : DataW H} {p : List MemPlace}
set_option maxRecDepth 100000 in
theorem openRules (hv : Value.okWide Try.prog w .any b0 22 v) (h : DataW.Trod enc Try.prog w 0 spare held 22 v d p) :
    ∃ (A : Option Addr) (c : Nat) (rs : List M.Rule), v = .slice A rs.length c ∧ (rs.length ≤ 9223372036854775807 ∧ Rd w 2 A rs.length (ruls rs) ∧ ∀ r ∈ rs, r.left.length ≤ 9223372036854775807 ∧ r.right.length ≤ 9223372036854775807) := by
  obtain ⟨a0, len, cap, rfl⟩ := okWide_slice Try.underlying22 hv
  obtain ⟨fuel, hf⟩ := h
  obtain ⟨A, c, xs, e, h1, h2, h3⟩ := openRuleSlice (v := .slice a0 len cap) (by simpa [Value.cells] using hf)
  exact ⟨A, c, xs, e, h1, h2, h3⟩
end

end Go.Proofs.Ytlohpphmamapeaa
/-
  A work copied by the laws, marked and held: both of its slices.
  Conditions: at most 2^20 rules, equations.
-/
namespace Go.Proofs.Ytlohpphmamapeaa
open Go.RowKit
set_option linter.unusedVariables false
set_option linter.unusedSimpArgs false
set_option maxRecDepth 100000 in
set_option maxHeartbeats 2000000 in
theorem markRuleS_b (A : Option Addr) (n c base : Nat) (cs : List Value) (q : Int) (w : World) (hA : Own w base 2 A n cs) (hn : n ≤ 13000000) (hq0 : 1 ≤ q) (hq : q ≤ 268435456) :
    Calls Try.prog 53 #[.slice A n c, .int .i64 q] w fun e w' => e = .returned (.int .i64 (q + (n : Int) * 2)) ∧ Own w' base 2 A n (ruls (markedRule q n)) ∧ w.grownBy w' (blk A n) := by
  have hlen : cs.length = n * 2 := by simpa using hA.1
  have HL := Lib.hid hlen
  have HA := Lib.hid hA
  clear hlen hA
  go_enter Try.func53, Try.ntmps53
  go_wp2
  go_loopw [1, 5] (fun q' i wr => ∃ k : Nat, k ≤ n ∧ i = .int .i64 k ∧ q' = .int .i64 (q + (k : Int) * 2) ∧ Own wr base 2 A n (markRuleTo cs q k) ∧ w.grownBy wr (blk A n)) (fun _ i _ => n - (intOf i).toNat)
  case atStart => exact ⟨0, by omega, rfl, by simp, by simpa [markRuleTo, markedRule, ruls] using HA.out, World.grownBy.refl w _⟩
  case round =>
    obtain ⟨k, hk, rfl, rfl, hown, hg⟩ := hrel
    by_cases hlt : k < n
    · have HO := Lib.hid hown
      have HG := Lib.hid hg
      have HSET := Lib.hid (markRuleTo_set (q := q) hlt HL.out)
      obtain ⟨b, o, rfl, _⟩ := HO.out.cells (by omega)
      have HROW := Lib.hid (show blk (some ⟨b, o, none⟩) n = some b by unfold blk; rw [if_neg (by omega)]; rfl)
      have hlm := HO.out.1
      generalize markRuleTo cs q k = pr at *
      clear hown hg
      go_wp2_with fail
      refine (markText_c _ _ (by omega) (by omega)).mono ?_
      rintro e w1 ⟨rfl, hb1⟩
      have HO1 := Lib.hid (HO.out.below hb1)
      have HB1 := Lib.hid hb1
      clear hb1
      obtain ⟨b', o', e1, _, _, hz, hf, hst⟩ := (HO1.out).cells (by omega)
      injection e1 with e1
      injection e1 with e1 e2
      subst e1 e2
      obtain ⟨u0a, hu0a⟩ : ∃ u, (w1).cell? ⟨b, o + k * 2, none⟩ = some u := ⟨_, hz (k * 2) _ (List.getElem?_eq_getElem (by first | omega | (simp; omega)))⟩
      have hf0a : (w1).frozen? ⟨b, o + k * 2, none⟩ = false := hf (k * 2)
      have H1 := Lib.hid (hst (k * 2) (.string ⟨(markT (q + (k : Int) * 2)).toArray⟩))
      clear hz hf hst
      go_wp2_with fail
      refine (markText_c _ _ (by omega) (by omega)).mono ?_
      rintro e w2 ⟨rfl, hb2⟩
      have HO2 := Lib.hid (H1.out.1.below hb2)
      have HB2 := Lib.hid hb2
      clear hb2
      obtain ⟨b', o', e1, _, _, hz, hf, hst⟩ := (HO2.out).cells (by omega)
      injection e1 with e1
      injection e1 with e1 e2
      subst e1 e2
      obtain ⟨u1b, hu1b⟩ : ∃ u, (w2).cell? ⟨b, o + k * 2 + 1, none⟩ = some u := ⟨_, hz (k * 2 + 1) _ (List.getElem?_eq_getElem (by first | omega | (simp; omega)))⟩
      have hf1b : (w2).frozen? ⟨b, o + k * 2 + 1, none⟩ = false := hf (k * 2 + 1)
      have H2 := Lib.hid (hst (k * 2 + 1) (.string ⟨(markT (q + (k : Int) * 2 + 1)).toArray⟩))
      clear hz hf hst
      go_wp2_with fail
      go_roundw
      case rel => exact ⟨k + 1, by omega, by go_num, by go_num, by rw [← HSET.out]; exact H2.out.1, (HG.out.trans (grown_of_below HB1.out _)).trans (by rw [HROW.out]; exact (H1.out.2.trans (grown_of_below HB2.out _)).trans H2.out.2)⟩
      case measure => simp [intOf] <;> omega
    · obtain rfl : k = n := by omega
      have HO := Lib.hid hown
      have HG := Lib.hid hg
      clear hown hg
      go_wp2
      go_ret
      exact ⟨rfl, by have h := HO.out; unfold markRuleTo at h; rw [List.drop_of_length_le (by have := HL.out; omega), List.append_nil] at h; exact h, HG.out⟩
set_option maxRecDepth 100000 in
set_option maxHeartbeats 2000000 in
theorem heldRuleS_b (A : Option Addr) (n c : Nat) (q : Int) (w : World) (hA : Rd w 2 A n (ruls (markedRule q n))) (hn : n ≤ 13000000) (hq0 : 1 ≤ q) (hq : q ≤ 268435456) :
    Calls Try.prog 66 #[.slice A n c, .int .i64 q] w fun e w' => e = .returned (.int .i64 (q + (n : Int) * 2)) ∧ Below w.heap.size w w' := by
  have HA := Lib.hid hA
  clear hA
  go_enter Try.func66, Try.ntmps66
  go_wp2
  go_loopw [1, 5] (fun q' i wr => ∃ k : Nat, k ≤ n ∧ i = .int .i64 k ∧ q' = .int .i64 (q + (k : Int) * 2) ∧ Below w.heap.size w wr) (fun _ i _ => n - (intOf i).toNat)
  case atStart => exact ⟨0, by omega, rfl, by simp, Below.refl _ _⟩
  case round =>
    obtain ⟨k, hk, rfl, rfl, hb⟩ := hrel
    have HB := Lib.hid hb
    clear hb
    by_cases hlt : k < n
    · obtain ⟨b, o, rfl, hz, hc1, hc2⟩ := (HA.out.below HB.out).ruleAt hlt
      rw [markedRule_at] at hc1 hc2
      simp only at hc1 hc2
      have HC1 := Lib.hid hc1
      have HC2 := Lib.hid hc2
      have HM1 := Lib.hid (fun W => markText_c (q + (k : Int) * 2) W (by omega) (by omega))
      have HM2 := Lib.hid (fun W => markText_c (q + (k : Int) * 2 + 1) W (by omega) (by omega))
      go_wp2_with fail
      go_region_with (go_at_call 111; refine (HM1.out _).mono ?_; rintro e w1 ⟨rfl, hb1⟩; have hd1 := cellKeep hb1 HC1.out)
      all_goals
        have HB1 := Lib.hid ((HB.out.drew).trans (hb1.mono HB.out.size))
        have he2 := cellKeep hb1 HC2.out
        have HE2 := Lib.hid he2
        clear hb1
        go_wp2_with fail
        go_region_with (go_at_call 111; refine (HM2.out _).mono ?_; rintro e w2 ⟨rfl, hb2⟩; have hd2 := cellKeep hb2 HE2.out)
        all_goals
          go_wp2
          go_roundw
          case rel => exact ⟨k + 1, by omega, by go_num, by go_num, (HB1.out.drew).trans (hb2.mono HB1.out.size)⟩
          case measure => simp [intOf] <;> omega
    · obtain rfl : k = n := by omega
      go_wp2
      go_ret
      exact ⟨rfl, HB.out⟩
set_option maxRecDepth 100000 in
set_option maxHeartbeats 4000000 in
theorem toWork_s (k : Int) (A : Option Addr) (c : Nat) (rs : List M.Rule) (B : Option Addr) (d : Nat) (qs : List M.Rule) (t : Int) (w : World) (hA : Rd w 2 A rs.length (ruls rs)) (hB : Rd w 2 B qs.length (ruls qs)) (hl : rs.length ≤ 1048576) (hql : qs.length ≤ 1048576) :
    Calls Try.prog 43 #[.agg #[.int .i64 k, .slice A rs.length c, .slice B qs.length d, .int .i64 t]] w (fun x w' => ∃ A c B, x = .returned (.agg #[.int .i64 k, .slice A rs.length c, .slice B qs.length qs.length, .int .i64 t]) ∧ Own w' w.heap.size 2 A rs.length (ruls rs) ∧ Own w' w.heap.size 2 B qs.length (ruls qs) ∧ (∀ g, blk A rs.length = some g → blk B qs.length ≠ some g) ∧ Below w.heap.size w w') := by
  have h1 := Lib.hid (fun W h => toSystem_c k A c rs W h hl)
  have h2 := Lib.hid (fun W h => show Calls Try.prog 50 #[.slice B qs.length d] W (fun e w' => ∃ B1 d1, e = .returned (.slice B1 qs.length d1) ∧ d1 = qs.length ∧ Own w' W.heap.size 2 B1 qs.length (ruls qs) ∧ Below W.heap.size W w') from (toRuleS_s B d qs W h hql).mono fun e w' h => ⟨_, _, h.1, rfl, h.2.1, h.2.2⟩)
  have HA := Lib.hid hA
  have HB := Lib.hid hB
  clear hA hB
  go_enter Try.func43, Try.ntmps43
  go_wp2_with fail
  refine (h1.out _ (HA.out.below (by repeat (first | exact Below.refl _ _ | refine Below.setCell ?_ (by simp <;> omega) _ | refine Below.alloc ?_ (by simp <;> omega) _ | refine below_drewN ?_ _ | refine Below.drew ?_)))).mono ?_
  rintro e w1 ⟨A1, c1, rfl, ho, hb⟩
  have b0 : w1.cell? ⟨w.heap.size, 0, none⟩ = some (.int .i64 k) := cellKeep hb (by simp [go_sem])
  have b1 : w1.cell? ⟨w.heap.size, 1, none⟩ = some (.slice A rs.length c) := cellKeep hb (by simp [go_sem])
  have b2 : w1.cell? ⟨w.heap.size, 2, none⟩ = some (.slice B qs.length d) := cellKeep hb (by simp [go_sem])
  have b3 : w1.cell? ⟨w.heap.size, 3, none⟩ = some (.int .i64 t) := cellKeep hb (by simp [go_sem])
  have r0 : w1.cell? ⟨w.heap.size + 1, 0, none⟩ = some (.int .i64 0) := cellKeep hb (by simp [go_sem])
  have r1 : w1.cell? ⟨w.heap.size + 1, 1, none⟩ = some (.slice none 0 0) := cellKeep hb (by simp [go_sem])
  have r2 : w1.cell? ⟨w.heap.size + 1, 2, none⟩ = some (.slice none 0 0) := cellKeep hb (by simp [go_sem])
  have r3 : w1.cell? ⟨w.heap.size + 1, 3, none⟩ = some (.int .i64 0) := cellKeep hb (by simp [go_sem])
  have fr0 : w1.frozen? ⟨w.heap.size + 1, 0, none⟩ = false := ((bcell hb).2 _ _ (by simp)).trans (by simp [go_sem])
  have fr1 : w1.frozen? ⟨w.heap.size + 1, 1, none⟩ = false := ((bcell hb).2 _ _ (by simp)).trans (by simp [go_sem])
  have fr2 : w1.frozen? ⟨w.heap.size + 1, 2, none⟩ = false := ((bcell hb).2 _ _ (by simp)).trans (by simp [go_sem])
  have fr3 : w1.frozen? ⟨w.heap.size + 1, 3, none⟩ = false := ((bcell hb).2 _ _ (by simp)).trans (by simp [go_sem])
  have x0 : w1.cell? ⟨w.heap.size + 1 + 1, 0, none⟩ = some (.int .i64 0) := cellKeep hb (by simp [go_sem])
  have x1 : w1.cell? ⟨w.heap.size + 1 + 1, 1, none⟩ = some (.slice none 0 0) := cellKeep hb (by simp [go_sem])
  have x2 : w1.cell? ⟨w.heap.size + 1 + 1, 2, none⟩ = some (.slice none 0 0) := cellKeep hb (by simp [go_sem])
  have x3 : w1.cell? ⟨w.heap.size + 1 + 1, 3, none⟩ = some (.int .i64 0) := cellKeep hb (by simp [go_sem])
  have fx0 : w1.frozen? ⟨w.heap.size + 1 + 1, 0, none⟩ = false := ((bcell hb).2 _ _ (by simp)).trans (by simp [go_sem])
  have fx1 : w1.frozen? ⟨w.heap.size + 1 + 1, 1, none⟩ = false := ((bcell hb).2 _ _ (by simp)).trans (by simp [go_sem])
  have fx2 : w1.frozen? ⟨w.heap.size + 1 + 1, 2, none⟩ = false := ((bcell hb).2 _ _ (by simp)).trans (by simp [go_sem])
  have fx3 : w1.frozen? ⟨w.heap.size + 1 + 1, 3, none⟩ = false := ((bcell hb).2 _ _ (by simp)).trans (by simp [go_sem])
  have HB1 := Lib.hid (below_then (a := w) (by repeat (first | exact Below.refl _ _ | refine Below.setCell ?_ (by simp <;> omega) _ | refine Below.alloc ?_ (by simp <;> omega) _ | refine below_drewN ?_ _ | refine Below.drew ?_)) hb)
  have HS1 := Lib.hid (show w.heap.size + 3 ≤ w1.heap.size by have h := hb.size; (try simp at h); omega)
  have HO := Lib.hid (ho.mono (base' := w.heap.size + 3) (by simp <;> omega))
  clear hb ho
  obtain ⟨S, hS⟩ : ∃ S, S = Value.slice A1 rs.length c1 := ⟨_, rfl⟩
  have y2 : ((w1.setCell ⟨w.heap.size + 1 + 1, 0, none⟩ (.int .i64 k)).setCell ⟨w.heap.size + 1 + 1, 1, none⟩ S).cell? ⟨w.heap.size, 2, none⟩ = some (.slice B qs.length d) := by simp [cell_set_ne, b2]
  have y3 : ((w1.setCell ⟨w.heap.size + 1 + 1, 0, none⟩ (.int .i64 k)).setCell ⟨w.heap.size + 1 + 1, 1, none⟩ S).cell? ⟨w.heap.size, 3, none⟩ = some (.int .i64 t) := by simp [cell_set_ne, b3]
  subst hS
  go_wp2_with fail
  refine (h2.out _ (HB.out.below ((HB1.out.setCell (by simp <;> omega) _).setCell (by simp <;> omega) _))).mono ?_
  rintro e w2 ⟨B1, d1, rfl, hd1, ho2, hb2⟩
  have HD := Lib.hid hd1
  clear hd1
  have HAP := Lib.hid (show ∀ g, blk A1 rs.length = some g → blk B1 qs.length ≠ some g from fun g h1 h2 => by have h3 := (HO.out.lt g h1).2; have h4 := (ho2.lt g h2).1; simp at h4; omega)
  have d3 : w2.cell? ⟨w.heap.size, 3, none⟩ = some (.int .i64 t) := cellKeep hb2 (by simp [cell_set_ne, b3])
  have s0 : w2.cell? ⟨w.heap.size + 1, 0, none⟩ = some (.int .i64 0) := cellKeep hb2 (by simp [cell_set_ne, r0])
  have s1 : w2.cell? ⟨w.heap.size + 1, 1, none⟩ = some (.slice none 0 0) := cellKeep hb2 (by simp [cell_set_ne, r1])
  have s2 : w2.cell? ⟨w.heap.size + 1, 2, none⟩ = some (.slice none 0 0) := cellKeep hb2 (by simp [cell_set_ne, r2])
  have s3 : w2.cell? ⟨w.heap.size + 1, 3, none⟩ = some (.int .i64 0) := cellKeep hb2 (by simp [cell_set_ne, r3])
  have z0 : w2.cell? ⟨w.heap.size + 1 + 1, 0, none⟩ = some (.int .i64 k) := cellKeep hb2 (by simp [cell_set_ne, set_some, isSome_keep, some_of x0, x0])
  have z1 : w2.cell? ⟨w.heap.size + 1 + 1, 1, none⟩ = some (.slice A1 rs.length c1) := cellKeep hb2 (by simp [cell_set_ne, set_some, isSome_keep, some_of x1, x1])
  have z2 : w2.cell? ⟨w.heap.size + 1 + 1, 2, none⟩ = some (.slice none 0 0) := cellKeep hb2 (by simp [cell_set_ne, set_some, isSome_keep, some_of x2, x2])
  have z3 : w2.cell? ⟨w.heap.size + 1 + 1, 3, none⟩ = some (.int .i64 0) := cellKeep hb2 (by simp [cell_set_ne, set_some, isSome_keep, some_of x3, x3])
  have gr0 : w2.frozen? ⟨w.heap.size + 1, 0, none⟩ = false := ((bcell hb2).2 _ _ (by have := World.block_lt_of_cell? w1 _ r0; simp; omega)).trans (by simpa using fr0)
  have gr1 : w2.frozen? ⟨w.heap.size + 1, 1, none⟩ = false := ((bcell hb2).2 _ _ (by have := World.block_lt_of_cell? w1 _ r1; simp; omega)).trans (by simpa using fr1)
  have gr2 : w2.frozen? ⟨w.heap.size + 1, 2, none⟩ = false := ((bcell hb2).2 _ _ (by have := World.block_lt_of_cell? w1 _ r2; simp; omega)).trans (by simpa using fr2)
  have gr3 : w2.frozen? ⟨w.heap.size + 1, 3, none⟩ = false := ((bcell hb2).2 _ _ (by have := World.block_lt_of_cell? w1 _ r3; simp; omega)).trans (by simpa using fr3)
  have gx0 : w2.frozen? ⟨w.heap.size + 1 + 1, 0, none⟩ = false := ((bcell hb2).2 _ _ (by have := World.block_lt_of_cell? w1 _ x0; simp; omega)).trans (by simpa using fx0)
  have gx1 : w2.frozen? ⟨w.heap.size + 1 + 1, 1, none⟩ = false := ((bcell hb2).2 _ _ (by have := World.block_lt_of_cell? w1 _ x1; simp; omega)).trans (by simpa using fx1)
  have gx2 : w2.frozen? ⟨w.heap.size + 1 + 1, 2, none⟩ = false := ((bcell hb2).2 _ _ (by have := World.block_lt_of_cell? w1 _ x2; simp; omega)).trans (by simpa using fx2)
  have gx3 : w2.frozen? ⟨w.heap.size + 1 + 1, 3, none⟩ = false := ((bcell hb2).2 _ _ (by have := World.block_lt_of_cell? w1 _ x3; simp; omega)).trans (by simpa using fx3)
  have HB2 := Lib.hid (below_then ((HB1.out.setCell (by simp <;> omega) _).setCell (by simp <;> omega) _) hb2)
  have HO1 := Lib.hid (((HO.out.setLow (b := w.heap.size + 1 + 1) (o := 0) (u := .int .i64 k) (by omega)).setLow (b := w.heap.size + 1 + 1) (o := 1) (u := .slice A1 rs.length c1) (by omega)).below hb2)
  have HO2 := Lib.hid (ho2.mono (base' := w.heap.size + 3) (by have := HS1.out; simp; omega))
  clear hb2 ho2
  clear b0 r0 x0 fr0 fx0 b1 r1 x1 fr1 fx1 b2 r2 x2 fr2 fx2 b3 r3 x3 fr3 fx3
  have u3 : (w2.setCell ⟨w.heap.size + 1 + 1, 2, none⟩ (.slice B1 qs.length d1)).cell? ⟨w.heap.size, 3, none⟩ = some (.int .i64 t) := by simp [cell_set_ne, d3]
  have v0 : ((w2.setCell ⟨w.heap.size + 1 + 1, 2, none⟩ (.slice B1 qs.length d1)).setCell ⟨w.heap.size + 1 + 1, 3, none⟩ (.int .i64 t)).cell? ⟨w.heap.size + 1 + 1, 0, none⟩ = some (.int .i64 k) := by simp [cell_set_ne, set_some, isSome_keep, some_of z0, z0]
  have v1 : ((w2.setCell ⟨w.heap.size + 1 + 1, 2, none⟩ (.slice B1 qs.length d1)).setCell ⟨w.heap.size + 1 + 1, 3, none⟩ (.int .i64 t)).cell? ⟨w.heap.size + 1 + 1, 1, none⟩ = some (.slice A1 rs.length c1) := by simp [cell_set_ne, set_some, isSome_keep, some_of z1, z1]
  have v2 : ((w2.setCell ⟨w.heap.size + 1 + 1, 2, none⟩ (.slice B1 qs.length d1)).setCell ⟨w.heap.size + 1 + 1, 3, none⟩ (.int .i64 t)).cell? ⟨w.heap.size + 1 + 1, 2, none⟩ = some (.slice B1 qs.length d1) := by simp [cell_set_ne, set_some, isSome_keep, some_of z2, z2]
  have v3 : ((w2.setCell ⟨w.heap.size + 1 + 1, 2, none⟩ (.slice B1 qs.length d1)).setCell ⟨w.heap.size + 1 + 1, 3, none⟩ (.int .i64 t)).cell? ⟨w.heap.size + 1 + 1, 3, none⟩ = some (.int .i64 t) := by simp [cell_set_ne, set_some, isSome_keep, some_of z3, z3]
  have m0 := some_of s0
  have m1 := some_of s1
  have m2 := some_of s2
  have m3 := some_of s3
  go_wp2_with fail
  refine bodyPost_ret (v := .agg #[.int .i64 k, .slice A1 rs.length c1, .slice B1 qs.length d1, .int .i64 t]) ?_ rfl ⟨A1, c1, B1, by rw [← HD.out], ?_, ?_, HAP.out, ?_⟩
  · simp [results, Try.results43, go_sem, cell_set_ne, set_some, isSome_keep, m0, m1, m2, m3]
  · exact (((((((HO1.out.setLow (by omega)).setLow (by omega)).setLow (by omega)).setLow (by omega)).setLow (by omega)).setLow (by omega))).mono (by omega)
  · exact (((((((HO2.out.setLow (by omega)).setLow (by omega)).setLow (by omega)).setLow (by omega)).setLow (by omega)).setLow (by omega))).mono (by omega)
  · exact ((((((HB2.out.setCell (by simp <;> omega) _).setCell (by simp <;> omega) _).setCell (by simp <;> omega) _).setCell (by simp <;> omega) _).setCell (by simp <;> omega) _).setCell (by simp <;> omega) _)
set_option maxRecDepth 100000 in
set_option maxHeartbeats 1000000 in
theorem markWork_c (k : Int) (A : Option Addr) (n c b1 : Nat) (cs : List Value) (B : Option Addr) (m d b2 : Nat) (ds : List Value) (t : Int) (w : World) (hA : Own w b1 2 A n cs) (hB : Own w b2 2 B m ds) (hap : ∀ g, blk A n = some g → blk B m ≠ some g) (hn : n ≤ 13000000) (hm : m ≤ 13000000) :
    Calls Try.prog 46 #[.agg #[.int .i64 k, .slice A n c, .slice B m d, .int .i64 t], .int .i64 1] w fun e w' => ∃ wm, e = .returned (.int .i64 (1 + (n : Int) * 2 + (m : Int) * 2)) ∧ w.grownBy wm (blk A n) ∧ wm.grownBy w' (blk B m) ∧ Own w' b1 2 A n (ruls (markedRule 1 n)) ∧ Own w' b2 2 B m (ruls (markedRule (1 + (n : Int) * 2) m)) := by
  have hp := fun (o : Obj) => (Below.refl w.heap.size w).alloc (Nat.le_refl _) o
  have h0 := Lib.hid (fun W h => markSystem_c k A n c b1 cs 1 W h hn (by omega) (by omega))
  have h1 := Lib.hid (fun W h => markRuleS_b B m d b2 ds (1 + (n : Int) * 2) W h hm (by omega) (by omega))
  have HA := Lib.hid hA
  have HB := Lib.hid hB
  have HAP := Lib.hid hap
  have HP := Lib.hid (fun o => grown_of_below (hp o) (blk A n))
  have HP2 := Lib.hid hp
  clear hA hB hp hap
  go_enter Try.func46, Try.ntmps46
  go_wp2_with fail
  refine (h0.out _ (HA.out.below (HP2.out _))).mono ?_
  rintro e w1 ⟨rfl, ho, hg⟩
  have c2 : w1.cell? ⟨w.heap.size, 2, none⟩ = some (.slice B m d) := cellGrown hg (by simp [go_sem]) (fun e => Nat.lt_irrefl _ (HA.out.lt _ e.symm).2)
  have HG := Lib.hid ((HP.out _).trans hg)
  have HO := Lib.hid ho
  have HOB := Lib.hid ((HB.out.below (HP2.out _)).grown hg (fun g h e => HAP.out g e.symm h))
  clear hg ho
  go_wp2_with fail
  refine (h1.out _ HOB.out).mono ?_
  rintro e w2 ⟨rfl, ho2, hg2⟩
  have HO2 := Lib.hid ho2
  have HG2 := Lib.hid hg2
  have HO1 := Lib.hid (HO.out.grown hg2 (fun g h e => HAP.out g h e.symm))
  clear ho2 hg2
  go_wp2_with fail
  go_ret
  exact ⟨w1, rfl, HG.out, HG2.out, HO1.out, HO2.out⟩
set_option maxRecDepth 100000 in
set_option maxHeartbeats 1000000 in
theorem heldWork_c (k : Int) (A : Option Addr) (n c : Nat) (B : Option Addr) (m d : Nat) (t : Int) (w : World) (hA : Rd w 2 A n (ruls (markedRule 1 n))) (hB : Rd w 2 B m (ruls (markedRule (1 + (n : Int) * 2) m))) (hn : n ≤ 13000000) (hm : m ≤ 13000000) :
    Calls Try.prog 47 #[.agg #[.int .i64 k, .slice A n c, .slice B m d, .int .i64 t], .int .i64 1] w fun e w' => e = .returned (.int .i64 (1 + (n : Int) * 2 + (m : Int) * 2)) ∧ Below w.heap.size w w' := by
  have hp := fun (o : Obj) => (Below.refl w.heap.size w).alloc (Nat.le_refl _) o
  have h0 := Lib.hid (fun W h => heldSystem_c k A n c 1 W h hn (by omega) (by omega))
  have h1 := Lib.hid (fun W h => heldRuleS_b B m d (1 + (n : Int) * 2) W h hm (by omega) (by omega))
  have HA := Lib.hid hA
  have HB := Lib.hid hB
  have HP := Lib.hid hp
  have hneg : ¬ (1 + (n : Int) * 2 < 0) := by omega
  have hneg2 : ¬ (1 + (n : Int) * 2 + (m : Int) * 2 < 0) := by omega
  clear hA hB hp
  go_enter Try.func47, Try.ntmps47
  go_wp2_with fail
  refine (h0.out _ (HA.out.below (HP.out _))).mono ?_
  rintro e w1 ⟨rfl, hb⟩
  have c2 : w1.cell? ⟨w.heap.size, 2, none⟩ = some (.slice B m d) := cellKeep hb (by simp [go_sem])
  have HB1 := Lib.hid (below_alloc1 hb)
  clear hb
  go_wp2_with fail
  refine (h1.out _ (HB.out.below HB1.out)).mono ?_
  rintro e w2 ⟨rfl, hb2⟩
  have HB2 := Lib.hid (HB1.out.trans (hb2.mono HB1.out.size))
  clear hb2
  go_wp2_with fail
  go_ret
  exact ⟨rfl, HB2.out⟩
theorem apart_blk {A B : Option Addr} {n c m d : Nat} (h : apartS A c B d) (h1 : n ≤ c) (h2 : m ≤ d) : ∀ g, blk A n = some g → blk B m ≠ some g := fun g hA hB => by
  obtain ⟨a1, ad, a2, a3⟩ := blk_some hA
  obtain ⟨b1, bd, b2, b3⟩ := blk_some hB
  exact h g (by unfold blkS; rw [if_neg (by omega), a2]; simpa using a3) (by unfold blkS; rw [if_neg (by omega), b2]; simpa using b3)
/-- The sizes of a turn's work. -/
theorem turn_size {k : Int} {rs qs : List M.Rule} {t : Int} (h1 : rs.length ≤ 1048576) (h2 : qs.length ≤ 1048576) : (M.turn k rs qs t).rs.length ≤ 1048576 ∧ (M.turn k rs qs t).qs.length ≤ 1048576 := by
  unfold M.turn
  split
  · exact ⟨h1, h2⟩
  · cases qs with
    | nil => exact ⟨h1, h2⟩
    | cons q qt =>
      simp only
      have h3 : qt.length ≤ 1048576 := by simp only [List.length_cons] at h2; omega
      split
      · exact ⟨h1, h2⟩
      · split
        · exact ⟨h1, h3⟩
        · unfold M.turnRule
          split
          · exact ⟨h1, h2⟩
          · split
            · exact ⟨h1, h2⟩
            · split
              · exact ⟨h1, h2⟩
              · exact ⟨by simp only; omega, by simp only; omega⟩
end Go.Proofs.Ytlohpphmamapeaa
/-
  The cell of internal/bytealg.MaxLen at a row's own world: it holds some int.
  Conditions: none; this text names no law.
-/
namespace Go.Proofs.Ytlohpphmamapeaa
open Go.RowKit

theorem maxLen_of (W : World) (h : W.ShapedOpen Try.prog) : ∃ m : Int, W.cell? ⟨0, 0, none⟩ = some (.int .i64 m) := Try.laysM144.s1_3 W h

end Go.Proofs.Ytlohpphmamapeaa
