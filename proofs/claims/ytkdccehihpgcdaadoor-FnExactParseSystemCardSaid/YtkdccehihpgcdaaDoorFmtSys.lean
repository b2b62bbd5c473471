/-
  Contracts of FormatSystem.
  Conditions: at most 2^20 rules of at most 2^20 letters; the table uint64pow10 reads as its initialiser lays it.
-/
import Derived.Test.YtkdccehihpgcdaaDoorFmtInt
import Derived.Test.YtkdccehihpgcdaaDoorOkC2
import Derived.Test.YtkdccehihpgcdaaDoorJoin
import Derived.Test.YtkdccehihpgcdaaDoorRuleC
import Derived.Test.YtkdccehihpgcdaaDoorPushM
namespace Go.Proofs.YtkdccehihpgcdaaDoor
open Go.RowKit
set_option linter.unusedVariables false
set_option linter.unusedSimpArgs false

def M.fmtTo (k : Int) (rs : List M.Rule) (i : Nat) : List UInt8 := Lib.itoa k ++ Lib.joinTail [32] ((rs.map M.FormatRule).take i)
def M.FormatSystem (k : Int) (rs : List M.Rule) : List UInt8 := if M.RulesOk k rs = true then M.fmtTo k rs rs.length else []
theorem fs_no {k : Int} {rs : List M.Rule} (h : M.RulesOk k rs = false) : M.FormatSystem k rs = [] := if_neg (by rw [h]; simp)
theorem fs_yes {k : Int} {rs : List M.Rule} (h : M.RulesOk k rs = true) : M.FormatSystem k rs = M.fmtTo k rs rs.length := if_pos h
theorem fs_parts {k : Int} {rs : List M.Rule} (h : M.RulesOk k rs = true) : (1 ≤ k ∧ k ≤ 4) ∧ rs.length ≤ 12 ∧ ∀ r ∈ rs, r.left.length ≤ 8 ∧ r.right.length ≤ 8 := by
  unfold M.RulesOk at h
  obtain ⟨h1, h2⟩ := Bool.and_eq_true_iff.1 h
  obtain ⟨h2, h3⟩ := Bool.and_eq_true_iff.1 h2
  refine ⟨by unfold M.within at h1; simpa using h1, of_decide_eq_true h2, fun r hr => ?_⟩
  have hb : M.ruleBad k r = false := by
    by_cases hb : M.ruleBad k r = true
    · have : rs.any (M.ruleBad k) = true := List.any_eq_true.2 ⟨r, hr, hb⟩
      rw [this] at h3
      cases h3
    · simpa using hb
  unfold M.ruleBad at hb
  have h4 : M.SidesOk k r = true := by
    cases hs : M.SidesOk k r
    · rw [hs] at hb; cases hb
    · rfl
  unfold M.SidesOk at h4
  obtain ⟨h4, h6⟩ := Bool.and_eq_true_iff.1 h4
  obtain ⟨_, h5⟩ := Bool.and_eq_true_iff.1 h4
  have h5 := of_decide_eq_true h5
  have h6 := of_decide_eq_true h6
  omega
theorem fmt_zero (k : Int) (rs : List M.Rule) : M.fmtTo k rs 0 = Lib.itoa k := by simp [M.fmtTo, Lib.joinTail]
theorem fmt_succ {k : Int} {rs : List M.Rule} {i : Nat} (h : i < rs.length) : M.fmtTo k rs (i + 1) = M.fmtTo k rs i ++ [32] ++ M.FormatRule rs[i] := by
  unfold M.fmtTo
  rw [Lib.joinTail_take_succ [32] _ i (M.FormatRule rs[i]) (by simp [h])]
  simp [List.append_assoc]
theorem fr_len {r : M.Rule} (h : r.left.length ≤ 8 ∧ r.right.length ≤ 8) : (M.FormatRule r).length ≤ 19 := by
  have h1 := M.dotted_len r.left
  have h2 := M.dotted_len r.right
  unfold M.FormatRule
  rw [List.length_append, List.length_cons]
  omega
theorem fmt_len {k : Int} {rs : List M.Rule} (h : M.RulesOk k rs = true) : ∀ i, i ≤ rs.length → (M.fmtTo k rs i).length ≤ 21 + 20 * i
  | 0, _ => by
    obtain ⟨h1, _⟩ := fs_parts h
    rw [fmt_zero]
    exact itoa_len k (by omega) (by omega)
  | i + 1, hi => by
    obtain ⟨_, _, h3⟩ := fs_parts h
    have ih := fmt_len h i (by omega)
    have hr := fr_len (h3 rs[i] (List.getElem_mem (by omega)))
    rw [fmt_succ (by omega), List.length_append, List.length_append]
    simp only [List.length_cons, List.length_nil]
    omega
def M.fmtWords (k : Int) (rs : List M.Rule) (i : Nat) : List (List UInt8) := Lib.itoa k :: (rs.map M.FormatRule).take i
theorem fw_len {k : Int} {rs : List M.Rule} {i : Nat} (h : i ≤ rs.length) : (M.fmtWords k rs i).length = i + 1 := by simp [M.fmtWords, Nat.min_eq_left h]
theorem fw_succ {k : Int} {rs : List M.Rule} {i : Nat} (h : i < rs.length) : strs (M.fmtWords k rs (i + 1)) = strs (M.fmtWords k rs i) ++ [.string ⟨(M.FormatRule rs[i]).toArray⟩] := by
  unfold M.fmtWords
  rw [List.take_succ_eq_append_getElem (by simpa using h)]
  simp [strs]
theorem fw_join (k : Int) (rs : List M.Rule) (i : Nat) : Lib.join (M.fmtWords k rs i) [32] = M.fmtTo k rs i := by rw [M.fmtWords, Lib.join_cons]; rfl
theorem lens_bound {ls : List (List UInt8)} {b : Nat} (h : ∀ l ∈ ls, l.length ≤ b) : Lib.lens ls ≤ b * ls.length := by
  induction ls with
  | nil => simp [Lib.lens]
  | cons x r ih =>
    have e : Lib.lens (x :: r) = x.length + Lib.lens r := by simp [Lib.lens]
    have h1 := ih fun l hl => h l (List.mem_cons_of_mem _ hl)
    have h2 := h x (by simp)
    rw [e, List.length_cons, Nat.mul_add]
    omega
theorem fw_lens {k : Int} {rs : List M.Rule} (h : M.RulesOk k rs = true) : Lib.lens (M.fmtWords k rs rs.length) ≤ 1048576 := by
  obtain ⟨h1, h2, h3⟩ := fs_parts h
  have hb := lens_bound (ls := M.fmtWords k rs rs.length) (b := 21) (fun l hl => by
    unfold M.fmtWords at hl
    rcases List.mem_cons.1 hl with e | e
    · subst e; exact itoa_len k (by omega) (by omega)
    · obtain ⟨r, hr, rfl⟩ := List.mem_map.1 (List.mem_of_mem_take e)
      have := fr_len (h3 r hr)
      omega)
  rw [fw_len (Nat.le_refl _)] at hb
  omega
theorem own_some {w : World} {base size n c : Nat} {e : TypeId} {A : Option Addr} {xs : List Value} (h : w.ownsRow base e size (.slice A n c) n xs) (hn : 0 < n) : (∃ g, A = some ⟨g, 0, none⟩) ∧ n ≤ c := by
  rcases h.2 with ⟨_, h0⟩ | ⟨g, cap, cur, hv, hb, hg, hnc, hm, hcs, ht⟩
  · omega
  · injection hv with hA hn' hc
    subst hc
    exact ⟨⟨g, hA⟩, hnc⟩

set_option maxRecDepth 100000 in
set_option maxHeartbeats 2000000 in
theorem spec_FormatSystem_c (k : Int) (A : Option Addr) (c : Nat) (rs : List M.Rule) (w : World) (hA : Rd w 2 A rs.length (ruls rs)) (hl : rs.length ≤ 1048576) (hs : ∀ r ∈ rs, r.left.length ≤ 1048576 ∧ r.right.length ≤ 1048576) :
    Calls Tryd.prog 24 #[.agg #[.int .i64 k, .slice A rs.length c]] w fun e w' => e = .returned (.string ⟨(M.FormatSystem k rs).toArray⟩) ∧ Below w.heap.size w w' := by
  have HA := Lib.hid hA
  have HS := Lib.hid hs
  have h1 := Lib.hid (fun W hA => spec_RulesOk_c k A c rs W hA hl hs)
  obtain ⟨x, hx⟩ : ∃ x, x = M.RulesOk k rs := ⟨_, rfl⟩
  rw [← hx] at h1
  have HP := Lib.hid (fun (o : Obj) => (Below.refl w.heap.size w).alloc (Nat.le_refl _) o)
  cases x
  case false =>
    rw [fs_no hx.symm]
    clear hA hs hx
    go_enter Tryd.func24, Tryd.ntmps24
    go_wp2_with fail
    refine (h1.out _ (HA.out.below (HP.out _))).mono ?_
    rintro e w1 ⟨rfl, hb⟩
    go_wp2_with fail
    go_ret
    exact ⟨rfl, below_alloc1 hb⟩
  case true =>
  rw [fs_yes hx.symm]
  obtain ⟨hk, h12, h8⟩ := fs_parts hx.symm
  have HF := Lib.hid (fun i hi => fmt_len hx.symm i hi)
  have HN := Lib.hid (fun i (h : i < rs.length) => fmt_succ (k := k) h)
  have H8 := Lib.hid h8
  have HI := Lib.hid (fun W => spec_FormatInt_c k W (by omega) (by omega))
  have HZ := Lib.hid (fmt_zero k rs)
  rw [← HZ.out] at HI
  clear hA hs hx h8
  obtain ⟨n, hn⟩ : ∃ n, n = rs.length := ⟨_, rfl⟩
  have HNN := Lib.hid hn
  rw [← hn] at h12 h1 HA ⊢
  clear hn hl
  go_enter Tryd.func24, Tryd.ntmps24
  go_wp2_with fail
  refine (h1.out _ (HA.out.below (HP.out _))).mono ?_
  rintro e w1 ⟨rfl, hb⟩
  have c0 : w1.cell? ⟨w.heap.size, 0, none⟩ = some (.int .i64 k) := cellKeep hb (by simp [go_sem])
  have c1 : w1.cell? ⟨w.heap.size, 1, none⟩ = some (.slice A n c) := cellKeep hb (by simp [go_sem])
  have T1 := Lib.hid (below_alloc1 hb)
  clear hb
  go_wp2_with fail
  refine (HI.out _).mono ?_
  rintro e w2 ⟨rfl, hb⟩
  have c2 : w2.cell? ⟨w.heap.size, 1, none⟩ = some (.slice A n c) := cellKeep hb c1
  have T2 := Lib.hid (T1.out.trans (hb.mono T1.out.size))
  clear hb c0 c1
  go_wp2_with fail
  go_loopw [3, 15] (fun s z wr => ∃ i : Nat, i ≤ n ∧ z = .int .i64 i ∧ s = .string ⟨(M.fmtTo k rs i).toArray⟩ ∧ Below w.heap.size w wr) (fun _ z _ => n - (intOf z).toNat)
  case atStart => exact ⟨0, by omega, rfl, rfl, T2.out⟩
  case round =>
    obtain ⟨i, hi, rfl, rfl, hb⟩ := hrel
    have HB := Lib.hid hb
    clear hb
    have hfl := HF.out i (by rw [← HNN.out]; exact hi)
    by_cases hlt : i < n
    · obtain ⟨b, o, rfl, hz, hc1, hc2⟩ := (HA.out.below HB.out).ruleAt (k := i) hlt
      have h8 := H8.out rs[i] (List.getElem_mem hz)
      have HS1 := Lib.hid (HN.out i (by rw [← HNN.out]; exact hlt))
      generalize hrr : rs[i] = r at *
      obtain ⟨rl, rr⟩ := r
      clear hrr
      simp only at hc1 hc2 h8
      have hfr := fr_len (r := ⟨rl, rr⟩) h8
      have HR := Lib.hid (fun W => spec_FormatRule_c rl rr W (by omega) (by omega))
      generalize M.FormatRule ⟨rl, rr⟩ = f at *
      generalize hto : M.fmtTo k rs i = t at *
      go_wp2_with fail
      refine (HR.out _).mono ?_
      rintro e w3 ⟨rfl, hb⟩
      have HB3 := Lib.hid (HB.out.trans ((below_alloc1 hb).mono HB.out.size))
      clear hb
      go_wp2_with fail
      go_roundw
      case rel => exact ⟨i + 1, by omega, by go_num, by rw [HS1.out]; simp [List.append_assoc], HB3.out⟩
      case measure => simp [intOf] <;> omega
    · obtain rfl : i = n := by omega
      go_wp2_with fail
      go_ret
      exact ⟨rfl, HB.out⟩
set_option maxRecDepth 100000 in
set_option maxHeartbeats 2000000 in
theorem impl_FormatSystem_c (k : Int) (A : Option Addr) (c : Nat) (rs : List M.Rule) (w : World) (hA : Rd w 2 A rs.length (ruls rs)) (hl : rs.length ≤ 1048576) (hs : ∀ r ∈ rs, r.left.length ≤ 1048576 ∧ r.right.length ≤ 1048576) (ht : Tab10 w) :
    Calls Tryd.prog 26 #[.agg #[.int .i64 k, .slice A rs.length c]] w fun e w' => e = .returned (.string ⟨(M.FormatSystem k rs).toArray⟩) ∧ Below w.heap.size w w' := by
  have HA := Lib.hid hA
  have HS := Lib.hid hs
  have HT := Lib.hid ht
  have h1 := Lib.hid (fun W hA => impl_RulesOk_c k A c rs W hA hl hs)
  obtain ⟨x, hx⟩ : ∃ x, x = M.RulesOk k rs := ⟨_, rfl⟩
  rw [← hx] at h1
  have HP := Lib.hid (fun (o : Obj) => (Below.refl w.heap.size w).alloc (Nat.le_refl _) o)
  cases x
  case false =>
    rw [fs_no hx.symm]
    clear hA hs hx ht
    go_enter Tryd.func26, Tryd.ntmps26
    go_wp2_with fail
    refine (h1.out _ (HA.out.below (HP.out _))).mono ?_
    rintro e w1 ⟨rfl, hb⟩
    go_wp2_with fail
    go_ret
    exact ⟨rfl, below_alloc1 hb⟩
  case true =>
  rw [fs_yes hx.symm, ← fw_join]
  obtain ⟨hk, h12, h8⟩ := fs_parts hx.symm
  have HLN := Lib.hid (fw_lens hx.symm)
  have HN := Lib.hid (fun i (h : i < rs.length) => fw_succ (k := k) h)
  have HL := Lib.hid (fun i (h : i ≤ rs.length) => fw_len (k := k) h)
  have H8 := Lib.hid h8
  have HI := Lib.hid (fun W ht => impl_FormatInt_c k W (by omega) (by omega) ht)
  have HZ := Lib.hid (show strs (M.fmtWords k rs 0) = [.string ⟨(Lib.itoa k).toArray⟩] by simp [M.fmtWords, strs])
  obtain ⟨ik, hik⟩ : ∃ ik, ik = Lib.itoa k := ⟨_, rfl⟩
  rw [← hik] at HI HZ
  clear hA hs hx h8 ht hik
  obtain ⟨n, hn⟩ : ∃ n, n = rs.length := ⟨_, rfl⟩
  have HNN := Lib.hid hn
  rw [← hn] at h12 h1 HA HLN ⊢
  clear hn hl
  go_enter Tryd.func26, Tryd.ntmps26
  go_wp2_with fail
  refine (h1.out _ (HA.out.below (HP.out _))).mono ?_
  rintro e w1 ⟨rfl, hb⟩
  have c0 : w1.cell? ⟨w.heap.size, 0, none⟩ = some (.int .i64 k) := cellKeep hb (by simp [go_sem])
  have c1 : w1.cell? ⟨w.heap.size, 1, none⟩ = some (.slice A n c) := cellKeep hb (by simp [go_sem])
  have T1 := Lib.hid (below_alloc1 hb)
  clear hb
  go_wp2_with fail
  refine (HI.out _ (HT.out.below T1.out)).mono ?_
  rintro e w2 ⟨rfl, hb⟩
  have c2 : w2.cell? ⟨w.heap.size, 1, none⟩ = some (.slice A n c) := cellKeep hb c1
  have c3 := fun o => allocKeep1 c2 o
  have T2 := Lib.hid (T1.out.trans (hb.mono T1.out.size))
  clear hb c0 c1
  go_wp2_with fail
  clear c3
  go_loopw [3, 16] (fun s z wr => ∃ (i : Nat) (B : Option Addr) (d : Nat), i ≤ n ∧ z = .int .i64 i ∧ s = .slice B (i + 1) d ∧ wr.ownsRow w.heap.size 9 1 (.slice B (i + 1) d) (i + 1) (strs (M.fmtWords k rs i)) ∧ Below w.heap.size w wr) (fun _ z _ => n - (intOf z).toNat)
  case atStart => exact ⟨0, some ⟨w2.heap.size, 0, none⟩, 1, by omega, rfl, rfl, by rw [HZ.out]; exact World.ownsRow_lit w2 _ 1 T2.out.size (by simp [maxLen]) (by simp), T2.out.alloc T2.out.size _⟩
  case round =>
    obtain ⟨i, B, d, hi, rfl, rfl, ho, hb⟩ := hrel
    have HB := Lib.hid hb
    have HO := Lib.hid ho
    clear hb ho
    by_cases hlt : i < n
    · obtain ⟨b, o, hA0, hz, hc1, hc2⟩ := (HA.out.below HB.out).ruleAt (k := i) hlt
      subst hA0
      have h8 := H8.out rs[i] (List.getElem_mem hz)
      have HS1 := Lib.hid (HN.out i (by rw [← HNN.out]; exact hlt))
      generalize hrr : rs[i] = r at *
      obtain ⟨rl, rr⟩ := r
      clear hrr
      simp only at hc1 hc2 h8
      have HR := Lib.hid (fun W => impl_FormatRule_c rl rr W (by omega) (by omega))
      generalize M.FormatRule ⟨rl, rr⟩ = f at *
      go_wp2_with fail
      refine (HR.out _).mono ?_
      rintro e w3 ⟨rfl, hb⟩
      have HB3 := Lib.hid (HB.out.trans ((below_alloc1 hb).mono HB.out.size))
      have HO3 := Lib.hid (own_below (own_below HO.out ((Below.refl _ _).alloc (Nat.le_refl _) _)) hb)
      clear hb hc1 hc2
      go_wp2_with (at_builtin; refine push_law rfl _ _ rfl slString rfl HO3.out (us := [.string ⟨f.toArray⟩]) rfl rfl (by simp [Value.oneCell']) HB3.out rfl (by omega) ?_; intro B5 d5 w5 hown5 hb5)
      go_roundw
      case rel => exact ⟨i + 1, B5, d5, by omega, by go_num, rfl, by rw [HS1.out]; exact hown5, hb5⟩
      case measure => simp [intOf] <;> omega
    · obtain rfl : i = n := by omega
      obtain ⟨⟨g, rfl⟩, hcd⟩ := own_some HO.out (by omega)
      have hlw := HL.out i (by rw [← HNN.out]; exact Nat.le_refl _)
      have HJ := Lib.hid (fun W h => impl_Join_c g d (M.fmtWords k rs i) [32] W h (by rw [hlw]; exact hcd) (by rw [hlw]; omega) HLN.out (by simp))
      rw [hlw] at HJ
      clear hlw
      go_wp2_with fail
      refine (HJ.out _ (Rd.of_own HO.out)).mono ?_
      rintro e w3 ⟨rfl, hb⟩
      go_wp2_with fail
      go_ret
      exact ⟨rfl, HB.out.trans (hb.mono HB.out.size)⟩
end Go.Proofs.YtkdccehihpgcdaaDoor
