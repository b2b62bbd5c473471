/-
  The law FnTurns returns true for every input, and leaves its arguments as they were.
  Conditions: none.
-/
import Derived.HandedShaped
import Derived.Test.YtlohpphmamapeaaMt1
import Derived.Test.YtlohpphmamapeaaMt5
import Derived.Test.YtlohpphmamapeaaMt6
namespace Go.Proofs.Ytlohpphmamapeaa.lawTurns
open Go.ChangeShapes Go.WideShapes Go.ChangeAt Go.RowKit
set_option linter.unusedVariables false

theorem start_work {k : Int} {es : List M.Rule} (h : M.startOk k es = true) : M.WorkOk k [] es 0 = true ∧ es.length ≤ 12 ∧ ∀ r ∈ es, r.left.length ≤ 1048576 ∧ r.right.length ≤ 1048576 := by
  unfold M.startOk M.within at h
  simp only [Bool.and_eq_true, decide_eq_true_iff, Bool.not_eq_true', List.any_eq_false, Bool.not_eq_false] at h
  obtain ⟨hk, hl, hs⟩ := h
  have hw : ∀ r ∈ es, M.Wd k r.left ∧ M.Wd k r.right := fun r hr => by
    have h1 := hs r hr
    unfold M.SidesOk at h1
    simp only [Bool.and_eq_true] at h1
    exact ⟨wd_of h1.1.1.1, wd_of h1.1.1.2⟩
  exact ⟨work_iff.2 ⟨sys_iff.2 ⟨hk, by simp, fun r hr => by simp at hr⟩, by omega, ⟨by omega, by omega⟩, hw⟩, hl, fun r hr => ⟨Nat.le_trans (hw r hr).1.2.2 (by decide), Nat.le_trans (hw r hr).2.2.2 (by decide)⟩⟩
theorem same_self (k : Int) (rs : List M.Rule) : M.SameSystem k k rs rs = true := by
  unfold M.SameSystem
  simp
set_option maxRecDepth 100000 in
set_option maxHeartbeats 16000000 in
theorem walk (m : Int) (A : Option Addr) (c : Nat) (bs : List UInt8) (w : World) (hr : bs.length ≤ 9223372036854775807 ∧ Rd w 1 A bs.length (u8s bs)) (hm : w.cell? ⟨0, 0, none⟩ = some (.int .i64 m)) :
    Calls Try.prog 13 #[.slice A bs.length c] w fun e w' => e = .returned (.bool true) ∧ Below w.heap.size w w' := by
  obtain ⟨hl, hA⟩ := hr
  by_cases hbig : 1048576 < bs.length
  case pos =>
    have hbig' : (1048576 : Int) < (bs.length : Int) := by omega
    clear hA hm
    go_enter Try.func13, Try.ntmps13
    go_wp2_with fail
    go_ret
    exact ⟨rfl, Below.refl _ _⟩
  case neg =>
  have hbig' : ¬ ((1048576 : Int) < (bs.length : Int)) := by omega
  have HM := Lib.hid (fun W (hb : Below w.heap.size w W) => cellKeep hb hm)
  have HEQ := Lib.hid (MakeEquations_c A bs.length c bs w hA (by omega))
  clear hA hm
  go_enter Try.func13, Try.ntmps13
  go_wp2_with fail
  refine HEQ.out.mono ?_
  rintro e w1 ⟨k, es, A1, c1, rfl, ⟨hok, hne⟩, ho, hb⟩
  obtain ⟨hwk, h12, hes⟩ := start_work hok
  have hpos : 0 < es.length := List.length_pos_iff.2 hne
  obtain ⟨g1, o1, cur1, rfl, _⟩ := ho.2.2.2 (by have := ho.2.1; omega)
  have HE := Lib.hid ho
  have HB1 := Lib.hid hb
  clear ho hb
  have HST := Lib.hid (fun W h => impl_StartWork_s k ⟨g1, o1, none⟩ c1 es W h (by omega) hes)
  rw [(start_yes hok).1, (start_yes hok).2, hok] at HST
  unfold RetStartS at HST
  have HOK := Lib.hid (fun W rs qs t A c B d hA hB (hb : Bd rs qs) => impl_WorkOk_c k A c rs B d qs t W hA hB hb.1 hb.2.1 hb.2.2.1 hb.2.2.2)
  have HTW := Lib.hid (fun W rs qs t A c B d hA hB (hd : qs.length ≤ d) (hb : Bd rs qs) hW => impl_TurnWork_c m k A c rs B d qs t W hA hB hd hb.1 hb.2.1 hb.2.2.1 hb.2.2.2 (HM.out W hW))
  have HCP := Lib.hid (fun W h hW => impl_Complete_c m k ⟨g1, o1, none⟩ c1 es W h (by omega) hes (HM.out W hW))
  rw [(start_yes hok).1] at HCP
  have HRN := Lib.hid (show M.run k es = M.runTo k 201 [] es 0 from by unfold M.run; rw [if_pos hok])
  have HRZ := Lib.hid (run_size (k := k) (es := es) (by omega))
  obtain ⟨X, hX⟩ : ∃ X, X = M.run k es := ⟨_, rfl⟩
  rw [← hX] at HCP HRN HRZ
  have HWK := Lib.hid hwk
  clear hX hok hne h12 hes hwk hbig hl HEQ
  obtain ⟨ne, hne⟩ : ∃ ne, ne = es.length := ⟨_, rfl⟩
  have HNE := Lib.hid hne
  rw [← hne] at HE HST HCP hpos ⊢
  clear hne
  go_wp2_with fail
  refine (HST.out _ HE.out.own.rd).mono ?_
  rintro e w2 ⟨A2, c2, rfl, o2, hb2⟩
  have AL := ref_al w2 (.cells #[.int .i64 k, .slice none 0 0, .slice A2 ne c2, .int .i64 0] 60)
  have HB2 := Lib.hid (HB1.out.trans ((hb2.trans (AL.mono hb2.size)).mono HB1.out.size))
  have HE2 := Lib.hid ((HE.out.below hb2).below AL)
  have HO := Lib.hid (show OutQ 84 60 w.heap.size (w2.alloc (.cells #[.int .i64 k, .slice none 0 0, .slice A2 ne c2, .int .i64 0] 60)) w2.heap.size k none 0 0 (ruls []) A2 ne c2 (ruls es) 0 from OutQ.made ownS_none (o2.mono HB1.out.size) (fun y h1 h2 => by simp [blkS] at h1) (by have h1 := HB1.out.size; have h2 := hb2.size; omega))
  clear o2 hb2 AL HST HE HB1
  have hne0 : (ne != ne) = false := by simp
  go_wp2_with fail
  generalize w2.alloc (.cells #[.int .i64 k, .slice none 0 0, .slice A2 ne c2, .int .i64 0] 60) = w3 at *
  generalize w2.heap.size = g5 at *
  have HK0 := Lib.hid (show Calls Try.prog 58 #[.agg #[.int .i64 k, .slice none 0 0, .slice A2 ne c2, .int .i64 0]] w3 fun e w' => e = .returned (.bool true) ∧ Below w3.heap.size w3 w' from by
    have h := HOK.out w3 [] es 0 none 0 A2 c2 Rd.none_ (by have h1 := HO.out.2.2.2.1.own.rd; rwa [HNE.out] at h1) (bd_ok HWK.out)
    rw [HWK.out, ← HNE.out] at h
    exact h)
  refine HK0.out.mono ?_
  rintro e w4 ⟨rfl, hb4⟩
  have HO4 := Lib.hid (show OutQ 84 60 w.heap.size w4 g5 k none ([] : List M.Rule).length 0 (ruls []) A2 es.length c2 (ruls es) 0 from by have h := HO.out.below hb4; rw [HNE.out] at h; exact h)
  have HB4 := Lib.hid (HB2.out.trans (hb4.mono HB2.out.size))
  have HE4 := Lib.hid (HE2.out.below hb4)
  obtain ⟨s0, s1, s2, s3⟩ := HO4.out.tab
  rw [← HNE.out] at s2
  clear hb4 HO HB2 HE2 HK0
  go_wp2_with fail
  clear s0 s1 s2 s3
  go_loopw [7, 8] (fun z z8 wr => ∃ (rs qs : List M.Rule) (t : Int) (A : Option Addr) (c : Nat) (B : Option Addr) (d : Nat), z = .int .i64 t ∧ z8 = .int .i64 0 ∧ OutQ 84 60 w.heap.size wr g5 k A rs.length c (ruls rs) B qs.length d (ruls qs) t ∧ OwnS wr w.heap.size 84 2 (some ⟨g1, o1, none⟩) ne c1 (ruls es) ∧ M.WorkOk k rs qs t = true ∧ M.runTo k (201 - t.toNat) rs qs t = X ∧ Below w.heap.size w wr) (fun z _ _ => 201 - (intOf z).toNat)
  case atStart => exact ⟨[], es, 0, none, 0, A2, c2, rfl, rfl, HO4.out, HE4.out, HWK.out, HRN.out.symm, HB4.out⟩
  case round =>
    clear HO4 HE4 HB4 HWK HRN
    obtain ⟨rs, qs, t, A, c, B, d, rfl, rfl, hq, he, hwk, hx, hb⟩ := hrel
    have HQ := Lib.hid hq
    have HE := Lib.hid he
    have HBW := Lib.hid hb
    have HXR := Lib.hid hx
    have ht := (work_iff.1 hwk).2.2.1
    have HBD := Lib.hid (bd_ok hwk)
    clear hq he hb hx
    have hf : 201 - t.toNat = (200 - t.toNat) + 1 := by omega
    rw [hf] at HXR
    clear hf
    obtain ⟨s0, s1, s2, s3⟩ := HQ.out.tab
    have ht1 : t ≤ 200 := ht.2
    by_cases hqe : qs = []
    case pos =>
      subst hqe
      have hx := HXR.out
      rw [runTo_end] at hx
      subst hx
      clear HXR HTW HOK
      simp only [List.length_nil] at s2
      go_wp2_with fail
      unfold RetComp at HCP
      simp only at HCP HRZ
      have HSS := Lib.hid (fun W A B c d hA hB => impl_SameSystem_c k k A B c d rs rs W hA hB HRZ.out HRZ.out)
      rw [same_self] at HSS
      refine (HCP.out _ HE.out.own.rd HBW.out).mono ?_
      rintro e w6 ⟨A6, c6, rfl, o6, hb6⟩
      have AL6 := ref_al w6 (.cells #[.int .i64 k, .slice A6 rs.length c6] 28)
      have HO6 := Lib.hid ((HQ.out.below hb6).below AL6)
      have P6 := Lib.hid (o6.below AL6)
      have HB6 := Lib.hid (HBW.out.trans ((hb6.trans (AL6.mono hb6.size)).mono HBW.out.size))
      obtain ⟨s0, s1, s2, s3⟩ := HO6.out.tab
      clear o6 hb6 AL6
      go_wp2_with fail
      refine (HSS.out _ A6 A c6 c P6.out.own.rd HO6.out.2.2.1.own.rd).mono ?_
      rintro e w7 ⟨rfl, hb7⟩
      have HB7 := Lib.hid (HB6.out.trans (hb7.mono HB6.out.size))
      clear hb7
      go_wp2_with fail
      go_ret
      exact ⟨rfl, HB7.out⟩
    case neg =>
      have hm0 : (0 : Int) < (qs.length : Int) := by have := List.length_pos_iff.2 hqe; omega
      have hok := fun hc => turn_ok (k := k) (t := t) (rs := rs) hqe hc
      have hstop := fun hc => runTo_stop (k := k) (f := 200 - t.toNat) (rs := rs) (t := t) hqe hc
      have hgo := fun hc => runTo_go (k := k) (f := 200 - t.toNat) (rs := rs) (t := t) hqe hc
      have HT1 := Lib.hid (HTW.out wr rs qs t A c B d HQ.out.2.2.1.own.rd HQ.out.2.2.2.1.own.rd HQ.out.2.2.2.1.2.1 HBD.out HBW.out)
      unfold RetTurn at HT1
      generalize M.turn k rs qs t = y at *
      obtain ⟨rs', qs', t', code⟩ := y
      simp only at HT1 hok hstop hgo
      have HOKH := Lib.hid hok
      have HSTH := Lib.hid hstop
      have HGOH := Lib.hid hgo
      clear hok hstop hgo HTW hwk
      go_wp2_with fail
      refine HT1.out.mono ?_
      rintro e w5 ⟨A3, c3, B3, d3, rfl, o1', o2, hap, hb⟩
      have AL := ref_al w5 (.cells #[.int .i64 k, .slice A3 rs'.length c3, .slice B3 qs'.length d3, .int .i64 t'] 60)
      have HQ5 := Lib.hid ((HQ.out.below hb).below AL)
      have HE5 := Lib.hid ((HE.out.below hb).below AL)
      have HB5 := Lib.hid (HBW.out.trans ((hb.trans (AL.mono hb.size)).mono HBW.out.size))
      have P1 := Lib.hid ((o1'.below AL).mono (base' := w.heap.size) HBW.out.size)
      have P2 := Lib.hid ((o2.below AL).mono (base' := w.heap.size) HBW.out.size)
      have HAP := Lib.hid hap
      clear o1' o2 hap hb AL s0 s1 s2 s3 HT1
      by_cases hc : code = 0
      case neg =>
        have hx := HXR.out
        rw [HSTH.out hc] at hx
        subst hx
        have hc' : (code != 0) = true := by simpa using hc
        clear HXR HOKH HSTH HGOH HOK
        go_wp2_with fail
        unfold RetComp at HCP
        simp only at HCP HRZ
        have HSS := Lib.hid (fun W A B c d hA hB => impl_SameSystem_c k k A B c d rs rs W hA hB HRZ.out HRZ.out)
        rw [same_self] at HSS
        refine (HCP.out _ HE5.out.own.rd HB5.out).mono ?_
        rintro e w6 ⟨A6, c6, rfl, o6, hb6⟩
        have AL6 := ref_al w6 (.cells #[.int .i64 k, .slice A6 rs.length c6] 28)
        have HO6 := Lib.hid ((HQ5.out.below hb6).below AL6)
        have P6 := Lib.hid (o6.below AL6)
        have HB6 := Lib.hid (HB5.out.trans ((hb6.trans (AL6.mono hb6.size)).mono HB5.out.size))
        obtain ⟨s0, s1, s2, s3⟩ := HO6.out.tab
        clear o6 hb6 AL6
        go_wp2_with fail
        refine (HSS.out _ A6 A c6 c P6.out.own.rd HO6.out.2.2.1.own.rd).mono ?_
        rintro e w7 ⟨rfl, hb7⟩
        have HB7 := Lib.hid (HB6.out.trans (hb7.mono HB6.out.size))
        clear hb7
        go_wp2_with fail
        go_ret
        exact ⟨rfl, HB7.out⟩
      case pos =>
        subst hc
        have hx := HXR.out
        rw [HGOH.out rfl] at hx
        obtain ⟨_, ht2, hwk, ht3⟩ := HOKH.out rfl
        have HXE := Lib.hid hx
        have HTE := Lib.hid (show (201 : Nat) - t'.toNat = 200 - t.toNat by omega)
        have HWK2 := Lib.hid hwk
        have HBD2 := Lib.hid (bd_ok hwk)
        have HT3 := Lib.hid ht3
        have HK1 := Lib.hid (HOK.out _ rs' qs' t' A3 c3 B3 d3 P1.out.own.rd P2.out.own.rd HBD2.out)
        rw [hwk] at HK1
        clear hx hwk HXR HSTH HGOH HOKH HOK
        have hw1 : (t + 1 + 9223372036854775808) % 18446744073709551616 - 9223372036854775808 = t + 1 := by omega
        have hne1 : (t' != t + 1) = false := by rw [ht3]; simp
        clear ht3
        go_wp2_with fail
        refine HK1.out.mono ?_
        rintro e w6 ⟨rfl, hb6⟩
        have HQ6 := Lib.hid (HQ5.out.below hb6)
        have HE6 := Lib.hid (HE5.out.below hb6)
        have HB6 := Lib.hid (HB5.out.trans (hb6.mono HB5.out.size))
        have R1 := Lib.hid (P1.out.below hb6)
        have R2 := Lib.hid (P2.out.below hb6)
        have m0 : w6.cell? ⟨w5.heap.size, 0, none⟩ = some (.int .i64 k) := cellKeep hb6 (by simp [go_sem])
        have m1 : w6.cell? ⟨w5.heap.size, 1, none⟩ = some (.slice A3 rs'.length c3) := cellKeep hb6 (by simp [go_sem])
        have m2 : w6.cell? ⟨w5.heap.size, 2, none⟩ = some (.slice B3 qs'.length d3) := cellKeep hb6 (by simp [go_sem])
        have m3 : w6.cell? ⟨w5.heap.size, 3, none⟩ = some (.int .i64 t') := cellKeep hb6 (by simp [go_sem])
        clear hb6 HQ5 HE5 HB5 P1 P2 HK1 HQ HE HBW
        obtain ⟨s0, s1, s2, s3⟩ := HQ6.out.tab
        have gf := HQ6.out.free
        have HZ := Lib.hid (HQ6.out.over (k' := k) (t' := t') (by decide) R1.out R2.out HAP.out)
        have HEZ := Lib.hid ((((HE6.out.setApart HQ6.out.1 (by decide) 0 (.int .i64 k)).setApart (heap_setCell_same _ g5 0 _ _ (.int .i64 k) HQ6.out.1) (by decide) 1 (.slice A3 rs'.length c3)).setApart (heap_setCell_same _ g5 1 _ _ (.slice A3 rs'.length c3) (heap_setCell_same _ g5 0 _ _ (.int .i64 k) HQ6.out.1)) (by decide) 2 (.slice B3 qs'.length d3)).setApart (heap_setCell_same _ g5 2 _ _ (.slice B3 qs'.length d3) (heap_setCell_same _ g5 1 _ _ (.slice A3 rs'.length c3) (heap_setCell_same _ g5 0 _ _ (.int .i64 k) HQ6.out.1))) (by decide) 3 (.int .i64 t'))
        have HBZ := Lib.hid ((((HB6.out.setCell (p := ⟨g5, 0, none⟩) HQ6.out.2.1 (.int .i64 k)).setCell (p := ⟨g5, 1, none⟩) HQ6.out.2.1 (.slice A3 rs'.length c3)).setCell (p := ⟨g5, 2, none⟩) HQ6.out.2.1 (.slice B3 qs'.length d3)).setCell (p := ⟨g5, 3, none⟩) HQ6.out.2.1 (.int .i64 t'))
        try go_wp2_with fail
        go_roundw
        case rel => exact ⟨rs', qs', t', A3, c3, B3, d3, by rw [HT3.out], rfl, HZ.out, HEZ.out, HWK2.out, by rw [HTE.out]; exact HXE.out, HBZ.out⟩
        case measure => simp [intOf] <;> omega

set_option maxRecDepth 100000 in
theorem lifted (os : Os) (started : os.Started) (H : Type) (enc : TypeId × Value → H) :
    ReturnsInHanded {} Try.checked os 13 .any (Rows.fnTurnsSpec.pre6 enc Try.prog Try.f13 Rows.fnTurnsRow.domain false) (Rows.fnTurnsSpec.post enc Try.prog Try.f13 false true false false) := by
  refine returnsInHanded_of_change_shaped (C := Try.checked) Try.own started (by kernel_rfl) Try.func13
    (ChangeSpec.witness6 (enc := enc) (C := Try.checked) false ⟨#[], #[.slice none 0 0], []⟩ 8 (by kernel_rfl) (by kernel_rfl) (by kernel_rfl) (by kernel_rfl)) ?_
  intro W base args ds gs before hval0 hW hcnd _ hsh _
  obtain ⟨m, hm⟩ := maxLen_of W hsh
  have hval : ∀ (j : Nat) t v, Try.f13.params[j]? = some t → args[j]? = some v → Value.okWide Try.prog W .any base t v := hval0
  have hW' := hW
  have hlt : ∀ x ∈ before, x.block < W.heap.size := fun x hx => hW.lt x hx
  obtain ⟨p, q, hA0, hV, rfl, hfz, hnd⟩ := hW
  have hA : DataW.TrodAll enc Try.prog W 0 (fun _ => true) true Try.f13.params.toList args.toList ds p := hA0
  rw [Try.params13] at hA hval
  obtain ⟨v0, d0, rfl, rfl, h0⟩ := trodAll_one hA
  clear hA0 hval0 hfz hnd
  obtain ⟨A0, c0, l0, rfl, hr0⟩ := openBytes (hval 0 75 v0 rfl rfl) h0
  refine (walk m A0 c0 l0 W hr0 hm).mono fun e W' ⟨he, hg⟩ => ?_
  subst he
  exact ⟨_, rfl, lawPost Try.laidOut (by kernel_rfl) (by kernel_rfl) Try.boolType rfl rfl hW' hg⟩

theorem proved : Rows.FnTurnsSaid :=
  OpenClaim.holds_of_wide 13 Try.f13 rfl rfl rfl rfl rfl rfl rfl ⟨rfl, rfl, rfl, rfl, rfl⟩ rfl rfl rfl rfl rfl (by kernel_rfl) Try.func13 (by kernel_rfl)
    (of_decide_eq_true (by kernel_rfl)) (by unfold Func.isWrapper; first | (rw [if_pos (by decide +kernel)]; kernel_rfl) | (rw [if_neg (by decide +kernel)]; exact ⟨rfl, rfl⟩))
    (fun os started H enc _ => lifted os started H enc)
#print axioms proved
end Go.Proofs.Ytlohpphmamapeaa.lawTurns
