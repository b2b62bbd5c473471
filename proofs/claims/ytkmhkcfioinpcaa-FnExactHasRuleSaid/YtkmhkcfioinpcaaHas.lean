/-
  Contracts of HasRule and SameSystem.
  Conditions: at most 2^20 rules.
-/
import Derived.Test.YtkmhkcfioinpcaaSys
namespace Go.Proofs.Ytkmhkcfioinpcaa
open Go.RowKit
set_option linter.unusedVariables false

/-- What HasRule gives. -/
def M.HasRule (rs : List M.Rule) (x : M.Rule) : Bool := rs.any fun y => decide (y.left = x.left ∧ y.right = x.right)
def M.sameRules (rs ts : List M.Rule) : Bool := decide (rs = ts)
theorem hasRule_drop {rs : List M.Rule} {k : Nat} {x : M.Rule} (h : k < rs.length) : M.HasRule (rs.drop k) x = (decide (rs[k].left = x.left ∧ rs[k].right = x.right) || M.HasRule (rs.drop (k + 1)) x) := by
  unfold M.HasRule; rw [List.drop_eq_getElem_cons h, List.any_cons]

set_option maxRecDepth 100000 in
set_option maxHeartbeats 2000000 in
theorem spec_HasRule_c (k0 : Int) (A : Option Addr) (c : Nat) (rs : List M.Rule) (l r : List UInt8) (w : World) (hA : Rd w 2 A rs.length (ruls rs)) (hl : rs.length ≤ 1048576) :
    Calls Try.prog 24 #[.agg #[.int .i64 k0, .slice A rs.length c], .agg #[.string ⟨l.toArray⟩, .string ⟨r.toArray⟩]] w fun e w' => e = .returned (.bool (M.HasRule rs ⟨l, r⟩)) ∧ Below w.heap.size w w' := by
  have HA := Lib.hid hA
  obtain ⟨q, hq⟩ : ∃ q, q = M.HasRule rs ⟨l, r⟩ := ⟨_, rfl⟩
  rw [← hq]
  have HQ := Lib.hid hq
  have HL := Lib.hid hl
  clear hA hq hl
  go_enter Try.func24, Try.ntmps24
  go_wp2
  go_loopw [10] (fun i wr => ∃ (k : Nat), k ≤ rs.length ∧ i = .int .i64 k ∧ M.HasRule (rs.drop k) ⟨l, r⟩ = q ∧ wr.cell? ⟨w.heap.size + 1, 0, none⟩ = some (.string ⟨l.toArray⟩) ∧ wr.cell? ⟨w.heap.size + 1, 1, none⟩ = some (.string ⟨r.toArray⟩) ∧ Below w.heap.size w wr) (fun i _ => rs.length - (intOf i).toNat)
  case atStart => exact ⟨0, by omega, rfl, by rw [List.drop_zero, HQ.out], by simp [go_sem], by simp [go_sem], by repeat (first | exact Below.refl _ _ | refine Below.alloc ?_ (by simp <;> omega) _)⟩
  case round =>
    obtain ⟨k, hk, rfl, hf, hx1, hx2, hb⟩ := hrel
    have HB := Lib.hid hb
    have HF := Lib.hid hf
    clear hb hf
    have hlb := HL.out
    by_cases hlt : k < rs.length
    · obtain ⟨b, o, rfl, hz, hc1, hc2⟩ := (HA.out.below HB.out).ruleAt (k := k) hlt
      have HF2 := Lib.hid ((hasRule_drop (x := ⟨l, r⟩) hz).symm.trans HF.out)
      generalize rs[k] = y at *
      obtain ⟨yl, yr⟩ := y
      simp only at hc1 hc2 HF2
      have hx1' := allocKeep1 hx1
      have hx2' := allocKeep1 hx2
      by_cases hel : yl = l
      case neg =>
        have hel' : (yl == l) = false := by simpa using hel
        have HF3 := Lib.hid (show M.HasRule (rs.drop (k + 1)) ⟨l, r⟩ = q by rw [← HF2.out, decide_eq_false (fun h => hel ( h.1))]; rfl)
        clear hel
        go_wp2_with fail
        
        go_roundw
        case rel => exact ⟨k + 1, by omega, by go_num, HF3.out, hx1' _, hx2' _, HB.out.alloc HB.out.size _⟩
        case measure => simp [intOf]; omega
      case pos =>
      by_cases her : yr = r
      case neg =>
        have her' : (yr == r) = false := by simpa using her
        have HF3 := Lib.hid (show M.HasRule (rs.drop (k + 1)) ⟨l, r⟩ = q by rw [← HF2.out, decide_eq_false (fun h => her ( h.2))]; rfl)
        subst hel
        clear her
        go_wp2_with fail
        
        go_roundw
        case rel => exact ⟨k + 1, by omega, by go_num, HF3.out, hx1' _, hx2' _, HB.out.alloc HB.out.size _⟩
        case measure => simp [intOf]; omega
      case pos =>
        have HF3 := Lib.hid (show true = q by rw [← HF2.out, decide_eq_true ⟨ hel,  her⟩]; rfl)
        subst hel
        subst her
        go_wp2_with fail
        
        go_ret
        exact ⟨ret_bool HF3.out, HB.out.alloc HB.out.size _⟩
    · have e : q = false := by have := HF.out; rw [List.drop_eq_nil_of_le (by omega)] at this; exact this.symm
      go_wp2
      go_ret
      exact ⟨ret_bool e.symm, HB.out⟩
set_option maxRecDepth 100000 in
set_option maxHeartbeats 2000000 in
theorem IndexRule_c (A : Option Addr) (c : Nat) (rs : List M.Rule) (l r : List UInt8) (w : World) (hA : Rd w 2 A rs.length (ruls rs)) (hl : rs.length ≤ 1048576) :
    Calls Try.prog 65 #[.slice A rs.length c, .agg #[.string ⟨l.toArray⟩, .string ⟨r.toArray⟩]] w fun e w' => (∃ z : Int, e = .returned (.int .i64 z) ∧ decide (0 ≤ z) = M.HasRule rs ⟨l, r⟩) ∧ Below w.heap.size w w' := by
  have HA := Lib.hid hA
  obtain ⟨q, hq⟩ : ∃ q, q = M.HasRule rs ⟨l, r⟩ := ⟨_, rfl⟩
  rw [← hq]
  have HQ := Lib.hid hq
  have HL := Lib.hid hl
  clear hA hq hl
  go_enter Try.func65, Try.ntmps65
  go_wp2
  go_loopw [8] (fun i wr => ∃ (k : Nat), k ≤ rs.length ∧ i = .int .i64 k ∧ M.HasRule (rs.drop k) ⟨l, r⟩ = q ∧ wr.cell? ⟨w.heap.size, 0, none⟩ = some (.string ⟨l.toArray⟩) ∧ wr.cell? ⟨w.heap.size, 1, none⟩ = some (.string ⟨r.toArray⟩) ∧ Below w.heap.size w wr) (fun i _ => rs.length - (intOf i).toNat)
  case atStart => exact ⟨0, by omega, rfl, by rw [List.drop_zero, HQ.out], by simp [go_sem], by simp [go_sem], by repeat (first | exact Below.refl _ _ | refine Below.alloc ?_ (by simp <;> omega) _)⟩
  case round =>
    obtain ⟨k, hk, rfl, hf, hx1, hx2, hb⟩ := hrel
    have HB := Lib.hid hb
    have HF := Lib.hid hf
    clear hb hf
    have hlb := HL.out
    by_cases hlt : k < rs.length
    · obtain ⟨b, o, rfl, hz, hc1, hc2⟩ := (HA.out.below HB.out).ruleAt (k := k) hlt
      have HF2 := Lib.hid ((hasRule_drop (x := ⟨l, r⟩) hz).symm.trans HF.out)
      generalize rs[k] = y at *
      obtain ⟨yl, yr⟩ := y
      simp only at hc1 hc2 HF2
      have hx1' := allocKeep1 hx1
      have hx2' := allocKeep1 hx2
      by_cases hel : l = yl
      case neg =>
        have hel' : (l == yl) = false := by simpa using hel
        have HF3 := Lib.hid (show M.HasRule (rs.drop (k + 1)) ⟨l, r⟩ = q by rw [← HF2.out, decide_eq_false (fun h => hel (Eq.symm h.1))]; rfl)
        clear hel
        go_wp2_with fail
        go_quiet (fail)
        go_wp2
        go_roundw
        case rel => exact ⟨k + 1, by omega, by go_num, HF3.out, hx1, hx2, below_drewN HB.out _⟩
        case measure => simp [intOf]; omega
      case pos =>
      by_cases her : r = yr
      case neg =>
        have her' : (r == yr) = false := by simpa using her
        have HF3 := Lib.hid (show M.HasRule (rs.drop (k + 1)) ⟨l, r⟩ = q by rw [← HF2.out, decide_eq_false (fun h => her (Eq.symm h.2))]; rfl)
        subst hel
        clear her
        go_wp2_with fail
        go_quiet (fail)
        go_wp2
        go_roundw
        case rel => exact ⟨k + 1, by omega, by go_num, HF3.out, hx1, hx2, below_drewN HB.out _⟩
        case measure => simp [intOf]; omega
      case pos =>
        have HF3 := Lib.hid (show true = q by rw [← HF2.out, decide_eq_true ⟨Eq.symm hel, Eq.symm her⟩]; rfl)
        subst hel
        subst her
        go_wp2_with fail
        go_quiet (fail)
        go_wp2
        go_ret
        exact ⟨⟨k, rfl, by rw [← HF3.out]; simp⟩, below_drewN HB.out _⟩
    · have e : q = false := by have := HF.out; rw [List.drop_eq_nil_of_le (by omega)] at this; exact this.symm
      go_wp2
      go_ret
      exact ⟨⟨-1, rfl, by rw [e]; rfl⟩, HB.out⟩
set_option maxRecDepth 100000 in
set_option maxHeartbeats 2000000 in
theorem ContainsRule_c (A : Option Addr) (c : Nat) (rs : List M.Rule) (l r : List UInt8) (w : World) (hA : Rd w 2 A rs.length (ruls rs)) (hl : rs.length ≤ 1048576) :
    Calls Try.prog 49 #[.slice A rs.length c, .agg #[.string ⟨l.toArray⟩, .string ⟨r.toArray⟩]] w fun e w' => e = .returned (.bool (M.HasRule rs ⟨l, r⟩)) ∧ Below w.heap.size w w' := by
  have HA := Lib.hid hA
  have h1 := Lib.hid (fun W hA => IndexRule_c A c rs l r W hA hl)
  clear hA
  generalize M.HasRule rs ⟨l, r⟩ = q at *
  go_enter Try.func49, Try.ntmps49
  go_wp2_with fail
  refine (h1.out _ (HA.out.below ((Below.refl _ _).alloc (Nat.le_refl _) _))).mono ?_
  rintro e w1 ⟨⟨z, rfl, hz⟩, hb⟩
  go_wp2_with fail
  go_ret
  exact ⟨rfl, below_alloc1 hb⟩
set_option maxRecDepth 100000 in
set_option maxHeartbeats 2000000 in
theorem impl_HasRule_c (k0 : Int) (A : Option Addr) (c : Nat) (rs : List M.Rule) (l r : List UInt8) (w : World) (hA : Rd w 2 A rs.length (ruls rs)) (hl : rs.length ≤ 1048576) :
    Calls Try.prog 25 #[.agg #[.int .i64 k0, .slice A rs.length c], .agg #[.string ⟨l.toArray⟩, .string ⟨r.toArray⟩]] w fun e w' => e = .returned (.bool (M.HasRule rs ⟨l, r⟩)) ∧ Below w.heap.size w w' := by
  have HA := Lib.hid hA
  have h1 := Lib.hid (fun W hA => ContainsRule_c A c rs l r W hA hl)
  clear hA
  generalize M.HasRule rs ⟨l, r⟩ = q at *
  go_enter Try.func25, Try.ntmps25
  go_wp2_with fail
  refine (h1.out _ (HA.out.below (below_two _ _ _))).mono ?_
  rintro e w1 ⟨rfl, hb⟩
  go_wp2_with fail
  go_ret
  exact ⟨rfl, below_alloc2 hb⟩

end Go.Proofs.Ytkmhkcfioinpcaa
