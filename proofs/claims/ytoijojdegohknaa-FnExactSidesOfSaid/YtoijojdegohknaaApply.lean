/-
  Contracts of ApplyStep.
  Conditions: at most 2^20 rules, words of at most 2^20 bytes.
-/
import Derived.Test.YtoijojdegohknaaFirst
import Derived.Test.YtoijojdegohknaaWordC
namespace Go.Proofs.Ytoijojdegohknaa
open Go.RowKit
set_option linter.unusedVariables false

/-- Whether a step is in a list. -/
def M.stepIn (x : M.Step) (zs : List M.Step) : Bool := zs.any fun y => decide (x.rule = y.rule ∧ x.place = y.place)
def M.replaced (rs : List M.Rule) (l : List UInt8) (x : M.Step) : List UInt8 × Bool := match rs[x.rule.toNat]? with
  | some r => M.ReplaceAt l x.place r.left.length r.right
  | none => ([], false)
def M.ApplyStep (k : Int) (rs : List M.Rule) (l : List UInt8) (x : M.Step) : List UInt8 × Bool := if M.stepIn x (M.StepsOf k rs l) = true then M.replaced rs l x else ([], false)
theorem stepIn_drop {zs : List M.Step} {k : Nat} {x : M.Step} (h : k < zs.length) : M.stepIn x (zs.drop k) = (decide (x.rule = zs[k].rule ∧ x.place = zs[k].place) || M.stepIn x (zs.drop (k + 1))) := by
  unfold M.stepIn; rw [List.drop_eq_getElem_cons h, List.any_cons]
theorem stepIn_of {k : Int} {rs : List M.Rule} {l : List UInt8} {x : M.Step} (h : M.stepIn x (M.StepsOf k rs l) = true) : ∃ i p : Nat, i < rs.length ∧ p < l.length ∧ x = ⟨i, p⟩ := by
  unfold M.stepIn at h
  obtain ⟨y, hy, he⟩ := List.any_eq_true.1 h
  have he := of_decide_eq_true he
  have e : x = y := step_ext he
  subst e
  unfold M.StepsOf at hy
  split at hy
  · obtain ⟨p, i, hp, hi, _, rfl⟩ := M.to_mem hy
    exact ⟨i, p, hi, hp, rfl⟩
  · simp at hy
theorem apply_no {k : Int} {rs : List M.Rule} {l : List UInt8} {x : M.Step} (h : M.stepIn x (M.StepsOf k rs l) = false) : M.ApplyStep k rs l x = ([], false) := if_neg (by rw [h]; simp)
theorem apply_yes {k : Int} {rs : List M.Rule} {l : List UInt8} {x : M.Step} (h : M.stepIn x (M.StepsOf k rs l) = true) : M.ApplyStep k rs l x = M.replaced rs l x := if_pos h
theorem replaced_at {rs : List M.Rule} {l : List UInt8} {i : Nat} {p : Int} (h : i < rs.length) : M.replaced rs l ⟨i, p⟩ = M.ReplaceAt l p rs[i].left.length rs[i].right := by simp [M.replaced, h]
set_option maxRecDepth 100000 in
set_option maxHeartbeats 2000000 in
theorem IndexStep_c (A : Option Addr) (c : Nat) (zs : List M.Step) (xr xp : Int) (w : World) (hA : Rd w 2 A zs.length (steps_ zs)) (hl : zs.length ≤ 1099511627776) :
    Calls Try.prog 104 #[.slice A zs.length c, .agg #[.int .i64 xr, .int .i64 xp]] w fun e w' => (∃ z : Int, e = .returned (.int .i64 z) ∧ decide (0 ≤ z) = M.stepIn ⟨xr, xp⟩ zs) ∧ Below w.heap.size w w' := by
  have HA := Lib.hid hA
  obtain ⟨q, hq⟩ : ∃ q, q = M.stepIn ⟨xr, xp⟩ zs := ⟨_, rfl⟩
  rw [← hq]
  have HQ := Lib.hid hq
  obtain ⟨m, hm⟩ : ∃ m, m = zs.length := ⟨_, rfl⟩
  have HM := Lib.hid hm
  have hmb : m ≤ 1099511627776 := by omega
  rw [← hm] at HA ⊢
  clear hA hq hl hm
  go_enter Try.func104, Try.ntmps104
  go_wp2
  go_loopw [8] (fun i wr => ∃ (k : Nat), k ≤ m ∧ i = .int .i64 k ∧ M.stepIn ⟨xr, xp⟩ (zs.drop k) = q ∧ wr.cell? ⟨w.heap.size, 0, none⟩ = some (.int .i64 xr) ∧ wr.cell? ⟨w.heap.size, 1, none⟩ = some (.int .i64 xp) ∧ Below w.heap.size w wr) (fun i _ => m - (intOf i).toNat)
  case atStart => exact ⟨0, by omega, rfl, by rw [List.drop_zero, HQ.out], by simp [go_sem], by simp [go_sem], by repeat (first | exact Below.refl _ _ | refine Below.alloc ?_ (by simp <;> omega) _)⟩
  case round =>
    obtain ⟨k, hk, rfl, hf, hx1, hx2, hb⟩ := hrel
    have HB := Lib.hid hb
    have HF := Lib.hid hf
    clear hb hf
    by_cases hlt : k < m
    · obtain ⟨b, o, rfl, hz, hc1, hc2⟩ := (HA.out.below HB.out).stepAt (k := k) hlt
      have HF2 := Lib.hid ((stepIn_drop (x := ⟨xr, xp⟩) hz).symm.trans HF.out)
      generalize zs[k] = y at *
      obtain ⟨yr, yp⟩ := y
      simp only at hc1 hc2 HF2
      by_cases hel : xr = yr
      case neg =>
        have hel' : (xr == yr) = false := by simpa using hel
        have HF3 := Lib.hid (show M.stepIn ⟨xr, xp⟩ (zs.drop (k + 1)) = q by rw [← HF2.out, decide_eq_false (fun h => hel h.1)]; rfl)
        clear hel
        go_wp2_with fail
        go_quiet (fail)
        go_wp2
        go_roundw
        case rel => exact ⟨k + 1, by omega, by go_num, HF3.out, hx1, hx2, below_drewN HB.out _⟩
        case measure => simp [intOf] <;> omega
      case pos =>
      by_cases her : xp = yp
      case neg =>
        have her' : (xp == yp) = false := by simpa using her
        have HF3 := Lib.hid (show M.stepIn ⟨xr, xp⟩ (zs.drop (k + 1)) = q by rw [← HF2.out, decide_eq_false (fun h => her h.2)]; rfl)
        subst hel
        clear her
        go_wp2_with fail
        go_quiet (fail)
        go_wp2
        go_roundw
        case rel => exact ⟨k + 1, by omega, by go_num, HF3.out, hx1, hx2, below_drewN HB.out _⟩
        case measure => simp [intOf] <;> omega
      case pos =>
        have HF3 := Lib.hid (show true = q by rw [← HF2.out, decide_eq_true ⟨hel, her⟩]; rfl)
        subst hel
        subst her
        go_wp2_with fail
        go_quiet (fail)
        go_wp2
        go_ret
        exact ⟨⟨k, rfl, by rw [← HF3.out]; simp⟩, below_drewN HB.out _⟩
    · have e : q = false := by have := HF.out; rw [List.drop_eq_nil_of_le (by have := HM.out; omega)] at this; exact this.symm
      go_wp2
      go_ret
      exact ⟨⟨-1, rfl, by rw [e]; rfl⟩, HB.out⟩
set_option maxRecDepth 100000 in
set_option maxHeartbeats 2000000 in
theorem ContainsStep_c (A : Option Addr) (c : Nat) (zs : List M.Step) (xr xp : Int) (w : World) (hA : Rd w 2 A zs.length (steps_ zs)) (hl : zs.length ≤ 1099511627776) :
    Calls Try.prog 85 #[.slice A zs.length c, .agg #[.int .i64 xr, .int .i64 xp]] w fun e w' => e = .returned (.bool (M.stepIn ⟨xr, xp⟩ zs)) ∧ Below w.heap.size w w' := by
  have HA := Lib.hid hA
  have h1 := Lib.hid (fun W hA => IndexStep_c A c zs xr xp W hA hl)
  clear hA
  generalize M.stepIn ⟨xr, xp⟩ zs = q at *
  go_enter Try.func85, Try.ntmps85
  go_wp2_with fail
  refine (h1.out _ (HA.out.below ((Below.refl _ _).alloc (Nat.le_refl _) _))).mono ?_
  rintro e w1 ⟨⟨z, rfl, hz⟩, hb⟩
  go_wp2_with fail
  go_ret
  exact ⟨rfl, below_alloc1 hb⟩
set_option maxRecDepth 100000 in
set_option maxHeartbeats 2000000 in
theorem apply_c (k : Int) (A : Option Addr) (c : Nat) (rs : List M.Rule) (l : List UInt8) (i : Nat) (p : Int) (w : World) (hA : Rd w 2 A rs.length (ruls rs)) (hi : i < rs.length) (hl : rs.length ≤ 1048576) (hs : ∀ r ∈ rs, r.left.length ≤ 1048576 ∧ r.right.length ≤ 1048576) (hll : l.length ≤ 1048576) :
    Calls Try.prog 86 #[.agg #[.int .i64 k, .slice A rs.length c], .string ⟨l.toArray⟩, .agg #[.int .i64 i, .int .i64 p]] w fun e w' => e = .returned (.tuple #[.string ⟨(M.ReplaceAt l p rs[i].left.length rs[i].right).1.toArray⟩, .bool (M.ReplaceAt l p rs[i].left.length rs[i].right).2]) ∧ Below w.heap.size w w' := by
  have HP := Lib.hid (fun (o p : Obj) => ((Below.refl w.heap.size w).alloc (Nat.le_refl _) o).alloc (by simp) p)
  obtain ⟨b, o, rfl, hz, hc1, hc2⟩ := hA.ruleAt (k := i) hi
  have k1 := fun (x y : Obj) => allocKeep2 hc1 x y
  have k2 := fun (x y : Obj) => allocKeep2 hc2 x y
  have hsz := hs rs[i] (List.getElem_mem hi)
  have h1 := Lib.hid (fun W => toBelow2 (impl_ReplaceAt_c l p rs[i].left.length rs[i].right W hll hsz.2))
  clear hs hA hc1 hc2
  obtain ⟨m, hm⟩ : ∃ m, m = rs.length := ⟨_, rfl⟩
  have him : i < m := by omega
  have hmb : m ≤ 1048576 := by omega
  rw [← hm]
  clear hm
  generalize rs[i] = r at *
  obtain ⟨rl, rr⟩ := r
  simp only at h1 k1 k2 hsz ⊢
  obtain ⟨hsz, _⟩ := hsz
  generalize M.ReplaceAt l p rl.length rr = z at *
  obtain ⟨zs, zb⟩ := z
  simp only at h1 ⊢
  go_enter Try.func86, Try.ntmps86
  go_wp2_with fail
  refine (h1.out _).mono ?_
  rintro e w1 ⟨rfl, hb⟩
  go_wp2_with fail
  go_ret2
  exact ⟨rfl, below_then (below_then (HP.out _ _) ((Below.refl _ _).alloc (Nat.le_refl _) _)) hb⟩
theorem heldS {a w w1 : World} {p1 p2 p3 p4 : Prop} (h : p1 ∧ p2 ∧ p3 ∧ p4 ∧ Below a.heap.size a w) : Below a.heap.size a w := h.2.2.2.2
set_option maxRecDepth 100000 in
set_option maxHeartbeats 4000000 in
theorem impl_ApplyStep_c (k : Int) (A : Option Addr) (c : Nat) (rs : List M.Rule) (l : List UInt8) (x : M.Step) (w : World) (hA : Rd w 2 A rs.length (ruls rs)) (hl : rs.length ≤ 1048576) (hs : ∀ r ∈ rs, r.left.length ≤ 1048576 ∧ r.right.length ≤ 1048576) (hll : l.length ≤ 1048576) :
    Calls Try.prog 43 #[.agg #[.int .i64 k, .slice A rs.length c], .string ⟨l.toArray⟩, .agg #[.int .i64 x.rule, .int .i64 x.place]] w fun e w' => e = .returned (.tuple #[.string ⟨(M.ApplyStep k rs l x).1.toArray⟩, .bool (M.ApplyStep k rs l x).2]) ∧ Below w.heap.size w w' := by
  have h1 := Lib.hid (fun W hA => impl_StepsOf_c k A c rs l W hA hl hs hll)
  have h2 := Lib.hid (fun W A' c' h => ContainsStep_c A' c' (M.StepsOf k rs l) x.rule x.place W h (Nat.le_trans (stepsOf_len hll) (by omega)))
  have HA := Lib.hid hA
  have HP := Lib.hid (fun (o p : Obj) => ((Below.refl w.heap.size w).alloc (Nat.le_refl _) o).alloc (by simp) p)
  obtain ⟨v, hv⟩ : ∃ v, v = M.stepIn x (M.StepsOf k rs l) := ⟨_, rfl⟩
  have hx : x = ⟨x.rule, x.place⟩ := rfl
  have h2' := h2.out
  rw [← hx, ← hv] at h2'
  have h2'' := Lib.hid h2'
  clear h2 h2'
  have HV := Lib.hid hv
  have HR := Lib.hid (fun (h : v = true) => stepIn_of (k := k) (rs := rs) (l := l) (x := x) (hv.symm.trans h))
  have HAP := Lib.hid (fun W h i p hi => apply_c k A c rs l i p W h hi hl hs hll)
  clear hA hs hv hx
  cases v
  case false =>
    rw [apply_no HV.out.symm]
    obtain ⟨xr, xp⟩ := x
    simp only at h2'' ⊢
    generalize M.StepsOf k rs l = zs at *
    clear HV HR HAP
    go_enter Try.func43, Try.ntmps43
    go_wp2_with fail
    go_region_held3 (fun w' => w'.cell? ⟨w.heap.size, 0, none⟩ = some (.int .i64 k) ∧ w'.cell? ⟨w.heap.size, 1, none⟩ = some (.slice A rs.length c) ∧ w'.cell? ⟨w.heap.size + 1, 0, none⟩ = some (.int .i64 xr) ∧ w'.cell? ⟨w.heap.size + 1, 1, none⟩ = some (.int .i64 xp) ∧ Below w.heap.size w w') (first | exact ⟨by simp [go_sem], by simp [go_sem], by simp [go_sem], by simp [go_sem], (HP.out _ _).drew⟩ | assumption | exact held4 (by assumption) hba | exact held4 (by assumption) hbb) (first | (go_simp; go_at_call 36; refine (h1.out _ (HA.out.below (held4_below (by assumption)))).mono ?_; rintro e wa ⟨A1, c1, rfl, hown, hba⟩) | (go_simp; go_at_call 85; refine (h2''.out _ _ _ (by first | exact Own.rd (by assumption) | exact (Own.rd (by assumption)).below (by assumption))).mono ?_; rintro e wb ⟨rfl, hbb⟩))
    all_goals
      have hB : Below w.heap.size w wb := held4_below (by assumption)
      go_wp2_with fail
      go_ret2
      exact ⟨rfl, hB⟩
  case true =>
    rw [apply_yes HV.out.symm]
    obtain ⟨i, p, hi, hp, rfl⟩ := HR.out rfl
    rw [replaced_at hi]
    have h3 := Lib.hid (fun W h => HAP.out W h i p hi)
    simp only at h2'' h3 ⊢
    generalize M.StepsOf k rs l = zs at *
    generalize M.ReplaceAt l p rs[i].left.length rs[i].right = z at *
    obtain ⟨zw, zb⟩ := z
    simp only at h3 ⊢
    clear HV HR HAP hi hp
    go_enter Try.func43, Try.ntmps43
    go_wp2_with fail
    go_region_held3 (fun w' => w'.cell? ⟨w.heap.size, 0, none⟩ = some (.int .i64 k) ∧ w'.cell? ⟨w.heap.size, 1, none⟩ = some (.slice A rs.length c) ∧ w'.cell? ⟨w.heap.size + 1, 0, none⟩ = some (.int .i64 i) ∧ w'.cell? ⟨w.heap.size + 1, 1, none⟩ = some (.int .i64 p) ∧ Below w.heap.size w w') (first | exact ⟨by simp [go_sem], by simp [go_sem], by simp [go_sem], by simp [go_sem], (HP.out _ _).drew⟩ | assumption | exact held4 (by assumption) hba | exact held4 (by assumption) hbb) (first | (go_simp; go_at_call 36; refine (h1.out _ (HA.out.below (held4_below (by assumption)))).mono ?_; rintro e wa ⟨A1, c1, rfl, hown, hba⟩) | (go_simp; go_at_call 85; refine (h2''.out _ _ _ (by first | exact Own.rd (by assumption) | exact (Own.rd (by assumption)).below (by assumption))).mono ?_; rintro e wb ⟨rfl, hbb⟩))
    all_goals
      have hS : wb.cell? ⟨w.heap.size, 0, none⟩ = some (.int .i64 k) ∧ wb.cell? ⟨w.heap.size, 1, none⟩ = some (.slice A rs.length c) ∧ wb.cell? ⟨w.heap.size + 1, 0, none⟩ = some (.int .i64 i) ∧ wb.cell? ⟨w.heap.size + 1, 1, none⟩ = some (.int .i64 p) ∧ Below w.heap.size w wb := by assumption
      obtain ⟨s0, s1, s2, s3, hB⟩ := hS
      have HB := Lib.hid hB
      clear hB
      go_wp2_with fail
      refine (h3.out _ (HA.out.below HB.out)).mono ?_
      rintro e w3 ⟨rfl, hb3⟩
      have HB3 := Lib.hid (HB.out.trans (hb3.mono HB.out.size))
      clear hb3
      go_wp2_with fail
      go_ret2
      exact ⟨rfl, HB3.out⟩
set_option maxRecDepth 100000 in
set_option maxHeartbeats 4000000 in
theorem spec_ApplyStep_c (k : Int) (A : Option Addr) (c : Nat) (rs : List M.Rule) (l : List UInt8) (x : M.Step) (w : World) (hA : Rd w 2 A rs.length (ruls rs)) (hl : rs.length ≤ 1048576) (hs : ∀ r ∈ rs, r.left.length ≤ 1048576 ∧ r.right.length ≤ 1048576) (hll : l.length ≤ 1048576) :
    Calls Try.prog 41 #[.agg #[.int .i64 k, .slice A rs.length c], .string ⟨l.toArray⟩, .agg #[.int .i64 x.rule, .int .i64 x.place]] w fun e w' => e = .returned (.tuple #[.string ⟨(M.ApplyStep k rs l x).1.toArray⟩, .bool (M.ApplyStep k rs l x).2]) ∧ Below w.heap.size w w' := by
  have h1 := Lib.hid (fun W hA => spec_StepsOf_c k A c rs l W hA hl hs hll)
  have HA := Lib.hid hA
  have HS := Lib.hid hs
  have HP := Lib.hid (fun (o p : Obj) => ((Below.refl w.heap.size w).alloc (Nat.le_refl _) o).alloc (by simp) p)
  have hzl := stepsOf_len (k := k) (rs := rs) hll
  obtain ⟨q, hq⟩ : ∃ q, q = M.stepIn x (M.StepsOf k rs l) := ⟨_, rfl⟩
  have HQ := Lib.hid hq
  have HR := Lib.hid (fun (h : q = true) => stepIn_of (k := k) (rs := rs) (l := l) (x := x) (hq.symm.trans h))
  have HNO := Lib.hid (fun (h : q = false) => apply_no (k := k) (rs := rs) (l := l) (x := x) (hq.symm.trans h))
  have HYES := Lib.hid (fun (h : q = true) => apply_yes (k := k) (rs := rs) (l := l) (x := x) (hq.symm.trans h))
  generalize M.ApplyStep k rs l x = res at *
  generalize M.StepsOf k rs l = zs at *
  obtain ⟨xr, xp⟩ := x
  simp only at HQ HR HNO HYES ⊢
  obtain ⟨n, hn⟩ : ∃ n, n = zs.length := ⟨_, rfl⟩
  have HN := Lib.hid hn
  have hnb : n ≤ 13000000 := by omega
  clear hA hs hq hzl
  rw [← hn] at h1
  clear hn
  obtain ⟨rw_, rb⟩ := res
  simp only at HNO HYES ⊢
  go_enter Try.func41, Try.ntmps41
  go_wp2_with fail
  refine (h1.out _ (HA.out.below (HP.out _ _))).mono ?_
  rintro e w1 ⟨A1, c1, rfl, ho, hb⟩
  have s0 : w1.cell? ⟨w.heap.size, 0, none⟩ = some (.int .i64 k) := cellKeep hb (by simp [go_sem])
  have s1 : w1.cell? ⟨w.heap.size, 1, none⟩ = some (.slice A rs.length c) := cellKeep hb (by simp [go_sem])
  have s2 : w1.cell? ⟨w.heap.size + 1, 0, none⟩ = some (.int .i64 xr) := cellKeep hb (by simp [go_sem])
  have s3 : w1.cell? ⟨w.heap.size + 1, 1, none⟩ = some (.int .i64 xp) := cellKeep hb (by simp [go_sem])
  have S1 := Lib.hid s1
  have S2 := Lib.hid s2
  have S3 := Lib.hid s3
  have HB0 := Lib.hid (below_alloc2 hb)
  have HO := Lib.hid ho.rd
  have HA1 := Lib.hid (HA.out.below HB0.out)
  clear hb ho
  go_wp2_with fail
  go_loopw [15] (fun z wr => ∃ (j : Nat), j ≤ n ∧ z = .int .i64 j ∧ M.stepIn ⟨xr, xp⟩ (zs.drop j) = q ∧ Below w1.heap.size w1 wr) (fun z _ => n - (intOf z).toNat)
  case atStart => exact ⟨0, by omega, rfl, by rw [List.drop_zero, HQ.out], Below.refl _ _⟩
  case round =>
    clear s0 s1 s2 s3
    obtain ⟨j, hj, rfl, hf, hb⟩ := hrel
    have HB := Lib.hid hb
    have HF := Lib.hid hf
    have s1 := cellKeep hb S1.out
    have s2 := cellKeep hb S2.out
    have s3 := cellKeep hb S3.out
    have t1 := allocKeep1 s1
    have t2 := allocKeep1 s2
    have t3 := allocKeep1 s3
    have v3 := allocKeep2 s3
    by_cases hlt : j < n
    case neg =>
      have e : q = false := by rw [List.drop_eq_nil_of_le (by have := HN.out; omega)] at hf; exact hf.symm
      have HE := Lib.hid (HNO.out e)
      clear hb hf t1 t2 t3 v3
      go_wp2
      go_ret2
      exact ⟨by have h := HE.out; injection h with h1 h2; rw [h1, h2]; rfl, HB0.out.trans (HB.out.mono HB0.out.size)⟩
    case pos =>
    obtain ⟨b, o, rfl, hz, hc1, hc2⟩ := (HO.out.below hb).stepAt (k := j) hlt
    have HF2 := Lib.hid ((stepIn_drop (x := ⟨xr, xp⟩) hz).symm.trans hf)
    generalize zs[j] = y at *
    obtain ⟨yr, yp⟩ := y
    simp only at hc1 hc2 HF2
    clear hb hf
    by_cases hel : xr = yr
    case neg =>
      have hel' : (xr == yr) = false := by simpa using hel
      have HF3 := Lib.hid (show M.stepIn ⟨xr, xp⟩ (zs.drop (j + 1)) = q by rw [← HF2.out, decide_eq_false (fun h => hel h.1)]; rfl)
      clear hel
      go_wp2_with fail
      go_roundw
      case rel => exact ⟨j + 1, by omega, by go_num, HF3.out, HB.out.alloc HB.out.size _⟩
      case measure => simp [intOf] <;> omega
    case pos =>
    by_cases her : xp = yp
    case neg =>
      have her' : (xp == yp) = false := by simpa using her
      have HF3 := Lib.hid (show M.stepIn ⟨xr, xp⟩ (zs.drop (j + 1)) = q by rw [← HF2.out, decide_eq_false (fun h => her h.2)]; rfl)
      subst hel
      clear her
      go_wp2_with fail
      go_roundw
      case rel => exact ⟨j + 1, by omega, by go_num, HF3.out, HB.out.alloc HB.out.size _⟩
      case measure => simp [intOf] <;> omega
    case pos =>
      have hqt : q = true := by rw [← HF2.out, decide_eq_true ⟨hel, her⟩]; rfl
      obtain ⟨i, p, hi, hp, he⟩ := HR.out hqt
      injection he with he1 he2
      subst he1
      subst he2
      have HE := Lib.hid ((HYES.out hqt).trans (replaced_at hi))
      subst hel
      subst her
      obtain ⟨b2, o2, e2, hz2, hr1, hr2⟩ := (HA1.out.below HB.out).ruleAt (k := i) hi
      subst e2
      have u1 := allocKeep1 hr1
      have u2 := allocKeep1 hr2
      have hsz := HS.out rs[i] (List.getElem_mem hi)
      have h4 := Lib.hid (fun W => toBelow2 (spec_ReplaceAt_c l p rs[i].left.length rs[i].right W hll hsz.2))
      obtain ⟨m, hm⟩ : ∃ m, m = rs.length := ⟨_, rfl⟩
      rw [← hm] at t1 s1
      have him : i < m := by omega
      have hmb : m ≤ 1048576 := by omega
      clear hqt hm
      generalize rs[i] = r at *
      obtain ⟨rl, rr⟩ := r
      simp only at hsz h4 HE u1 u2
      obtain ⟨hsz, _⟩ := hsz
      rw [← HE.out] at h4
      simp only at h4
      go_wp2_with fail
      refine (h4.out _).mono ?_
      rintro e w2 ⟨rfl, hb2⟩
      go_wp2_with fail
      go_ret2
      exact ⟨rfl, HB0.out.trans ((HB.out.trans ((below_then ((Below.refl wr.heap.size wr).alloc (Nat.le_refl _) _ |>.alloc (by simp) _) hb2).mono HB.out.size)).mono HB0.out.size)⟩

end Go.Proofs.Ytoijojdegohknaa
