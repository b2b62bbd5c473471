/-
  Contracts of the closure of satisfies and of slices.ContainsFunc with it.
  Conditions: tables of at most 40 elements.
-/
import Derived.Test.YtlohpphmamapeaaValOf
import Derived.Test.YtlohpphmamapeaaSys
namespace Go.Proofs.Ytlohpphmamapeaa
open Go.RowKit
set_option linter.unusedVariables false

theorem held5 {a w w1 : World} {b0 o0 : Nat} {u0 : Value} {b1 o1 : Nat} {u1 : Value} {b2 o2 : Nat} {u2 : Value} {b3 o3 : Nat} {u3 : Value} {b4 o4 : Nat} {u4 : Value} (h : w.cell? ⟨b0, o0, none⟩ = some u0 ∧ w.cell? ⟨b1, o1, none⟩ = some u1 ∧ w.cell? ⟨b2, o2, none⟩ = some u2 ∧ w.cell? ⟨b3, o3, none⟩ = some u3 ∧ w.cell? ⟨b4, o4, none⟩ = some u4 ∧ Below a.heap.size a w) (hb : Below w.heap.size w w1) :
    w1.cell? ⟨b0, o0, none⟩ = some u0 ∧ w1.cell? ⟨b1, o1, none⟩ = some u1 ∧ w1.cell? ⟨b2, o2, none⟩ = some u2 ∧ w1.cell? ⟨b3, o3, none⟩ = some u3 ∧ w1.cell? ⟨b4, o4, none⟩ = some u4 ∧ Below a.heap.size a w1 :=
  ⟨cellKeep hb h.1, cellKeep hb h.2.1, cellKeep hb h.2.2.1, cellKeep hb h.2.2.2.1, cellKeep hb h.2.2.2.2.1, below_then h.2.2.2.2.2 hb⟩
theorem held5_below {a w : World} {p0 p1 p2 p3 p4 : Prop} (h : p0 ∧ p1 ∧ p2 ∧ p3 ∧ p4 ∧ Below a.heap.size a w) : Below a.heap.size a w := h.2.2.2.2.2

def M.misfit (n : Nat) (xs ys : List Int) (r : M.Rule) : Bool := !decide (M.valFrom n xs ys 0 r.left = M.valFrom n xs ys 0 r.right)
def M.Fit (k : Int) (r : M.Rule) : Prop := (M.hasLetters k r.left = true ∧ M.hasLetters k r.right = true) ∧ r.left.length ≤ 1048576 ∧ r.right.length ≤ 1048576
/-- What the closure of satisfies has captured: the table, the images. -/
def CapT (w : World) (b0 b1 : Nat) (n : Nat) (A : Option Addr) (c : Nat) (xs : List Int) (B : Option Addr) (d : Nat) (ys : List Int) : Prop :=
  w.cell? ⟨b0, 0, none⟩ = some (.int .i64 n) ∧ w.cell? ⟨b0, 1, none⟩ = some (.slice A xs.length c) ∧ w.cell? ⟨b1, 0, none⟩ = some (.slice B ys.length d) ∧ Rd w 1 A xs.length (ints xs) ∧ Rd w 1 B ys.length (ints ys)
theorem CapT.below {w w' : World} {b0 b1 n : Nat} {A : Option Addr} {c : Nat} {xs : List Int} {B : Option Addr} {d : Nat} {ys : List Int} (h : CapT w b0 b1 n A c xs B d ys) (hb : Below w.heap.size w w') : CapT w' b0 b1 n A c xs B d ys :=
  ⟨cellKeep hb h.1, cellKeep hb h.2.1, cellKeep hb h.2.2.1, h.2.2.2.1.below hb, h.2.2.2.2.below hb⟩
set_option maxRecDepth 100000 in
set_option maxHeartbeats 4000000 in
theorem Satisfies1_c (n : Nat) (A : Option Addr) (c : Nat) (xs : List Int) (B : Option Addr) (d : Nat) (ys : List Int) (hn1 : 1 ≤ n) (hn : n ≤ 40) (hl0 : xs.length = n * n) (hin : M.InP n xs) (hy : ys.length ≤ 4) (hyin : M.InP n ys) (b0 b1 : Nat) (r : M.Rule) (w : World) (h0 : CapT w b0 b1 n A c xs B d ys) (hr : M.Fit ys.length r) :
    Calls Try.prog 136 #[.agg #[.string ⟨r.left.toArray⟩, .string ⟨r.right.toArray⟩], .pointer (some ⟨b0, 0, none⟩), .pointer (some ⟨b1, 0, none⟩)] w fun e w' => e = .returned (.bool (M.misfit n xs ys r)) ∧ Below w.heap.size w w' := by
  have HV := Lib.hid (fun l W h h' hlet hll => value_c n A c xs B d ys l W h h' hn1 hn hl0 hin hy hyin hlet hll)
  obtain ⟨rl, rr⟩ := r
  obtain ⟨⟨hll, hlr⟩, hbl, hbr⟩ := hr
  simp only at hll hlr hbl hbr ⊢
  obtain ⟨c0, c1, c2, hA, hB⟩ := h0
  have HA := Lib.hid hA
  have HB := Lib.hid hB
  have HB0 := Lib.hid hy
  have k0 := allocKeep1 c0
  have k1 := allocKeep1 c1
  have k2 := allocKeep1 c2
  unfold M.misfit
  simp only
  clear hA hB hn1 hn hl0 hin hyin hy
  obtain ⟨v1, hv1⟩ : ∃ v, v = M.valFrom n xs ys 0 rl := ⟨_, rfl⟩
  obtain ⟨v2, hv2⟩ : ∃ v, v = M.valFrom n xs ys 0 rr := ⟨_, rfl⟩
  have HV1 := Lib.hid (fun W h h' => HV.out rl W h h' hll hbl)
  have HV2 := Lib.hid (fun W h h' => HV.out rr W h h' hlr hbr)
  by_cases he : M.valFrom n xs ys 0 rl = M.valFrom n xs ys 0 rr
  all_goals
    first | (rw [decide_eq_true he]; have he' : (M.valFrom n xs ys 0 rl != M.valFrom n xs ys 0 rr) = false := by rw [bne_eq_false_iff_eq]; exact he) | (rw [decide_eq_false he]; have he' : (M.valFrom n xs ys 0 rl != M.valFrom n xs ys 0 rr) = true := by rw [bne_iff_ne]; exact he)
    clear he hv1 hv2 HV1 HV2
    go_enter Try.func136, Try.ntmps136
    go_wp2_with fail
    go_region_held3 (fun w' => w'.cell? ⟨b0, 0, none⟩ = some (.int .i64 n) ∧ w'.cell? ⟨b0, 1, none⟩ = some (.slice A xs.length c) ∧ w'.cell? ⟨b1, 0, none⟩ = some (.slice B ys.length d) ∧ w'.cell? ⟨w.heap.size, 0, none⟩ = some (.string ⟨rl.toArray⟩) ∧ w'.cell? ⟨w.heap.size, 1, none⟩ = some (.string ⟨rr.toArray⟩) ∧ Below w.heap.size w w') (first | exact ⟨k0 _, k1 _, k2 _, by simp [go_sem], by simp [go_sem], ((Below.refl _ _).alloc (Nat.le_refl _) _).drew⟩ | assumption | exact held5 (by assumption) hbt) (first | (go_simp; go_at_call 137; refine (HV.out _ _ (HA.out.below (held5_below (by assumption))) (HB.out.below (held5_below (by assumption))) (by assumption) (by assumption)).mono ?_; rintro e wt ⟨rfl, hbt⟩))
    all_goals
      have hh := held5_below (a := w) (by assumption)
      go_wp2
      go_ret
      exact ⟨rfl, hh⟩
set_option maxRecDepth 100000 in
set_option maxHeartbeats 1000000 in
theorem IndexFuncSatisfies1_c (n : Nat) (A0 : Option Addr) (c0 : Nat) (xs : List Int) (B0 : Option Addr) (d0 : Nat) (ys : List Int) (hn1 : 1 ≤ n) (hn : n ≤ 40) (hl0 : xs.length = n * n) (hin : M.InP n xs) (hy : ys.length ≤ 4) (hyin : M.InP n ys) (b0 b1 : Nat) (A : Option Addr) (c : Nat) (rs : List M.Rule) (w : World) (h0 : CapT w b0 b1 n A0 c0 xs B0 d0 ys) (hA : Rd w 2 A rs.length (ruls rs)) (hl : rs.length ≤ 1048576) (hs : ∀ r ∈ rs, M.Fit ys.length r) :
    Calls Try.prog 162 #[.slice A rs.length c, .func (.func 136) #[] #[.pointer (some ⟨b0, 0, none⟩), .pointer (some ⟨b1, 0, none⟩)]] w fun e w' => (∃ z : Int, e = .returned (.int .i64 z) ∧ decide (0 ≤ z) = rs.any (M.misfit n xs ys)) ∧ Below w.heap.size w w' := by
  have HA := Lib.hid hA
  have HS := Lib.hid hs
  have H0 := Lib.hid h0
  clear h0
  obtain ⟨q, hq⟩ : ∃ q, q = rs.any (M.misfit n xs ys) := ⟨_, rfl⟩
  rw [← hq]
  have HQ := Lib.hid hq
  obtain ⟨m, hm⟩ : ∃ m, m = rs.length := ⟨_, rfl⟩
  have hmb : m ≤ 1048576 := by omega
  rw [← hm]
  have HM := Lib.hid hm
  clear hA hs hq hm hl
  go_enter Try.func162, Try.ntmps162
  go_wp2
  go_loopw [8] (fun i wr => ∃ (k : Nat), k ≤ m ∧ i = .int .i64 k ∧ (rs.drop k).any (M.misfit n xs ys) = q ∧ Below w.heap.size w wr) (fun i _ => m - (intOf i).toNat)
  case atStart => exact ⟨0, by omega, rfl, by rw [List.drop_zero, HQ.out], Below.refl _ _⟩
  case round =>
    obtain ⟨k, hk, rfl, hf, hb⟩ := hrel
    have HB := Lib.hid hb
    have HF := Lib.hid hf
    clear hb hf
    by_cases hlt : k < m
    · obtain ⟨b, o, rfl, hz, hc1, hc2⟩ := (HA.out.below HB.out).ruleAt (k := k) (by have := HM.out; omega)
      have hd : (rs.drop k).any (M.misfit n xs ys) = ((M.misfit n xs ys) rs[k] || (rs.drop (k + 1)).any (M.misfit n xs ys)) := by rw [List.drop_eq_getElem_cons hz, List.any_cons]
      have HC := Lib.hid (fun W h => Satisfies1_c n A0 c0 xs B0 d0 ys hn1 hn hl0 hin hy hyin b0 b1 rs[k] W h (HS.out rs[k] (List.getElem_mem hz)))
      have HF2 := Lib.hid (hd.symm.trans HF.out)
      clear hd
      generalize rs[k] = r at *
      obtain ⟨rl, rr⟩ := r
      simp only at hc1 hc2 HC
      generalize (M.misfit n xs ys) ⟨rl, rr⟩ = v at *
      cases v
      case true =>
        go_wp2_with fail
        refine (HC.out _ (H0.out.below HB.out)).mono ?_
        rintro e w1 ⟨rfl, hb1⟩
        go_wp2_with fail
        go_ret
        exact ⟨⟨k, rfl, by have := HF2.out; rw [← this]; simp⟩, HB.out.trans (hb1.mono HB.out.size)⟩
      case false =>
        go_wp2_with fail
        refine (HC.out _ (H0.out.below HB.out)).mono ?_
        rintro e w1 ⟨rfl, hb1⟩
        go_wp2_with fail
        go_roundw
        case rel => exact ⟨k + 1, by omega, by go_num, by have := HF2.out; rw [← this]; simp, HB.out.trans (hb1.mono HB.out.size)⟩
        case measure => simp [intOf]; omega
    · have e : q = false := by have := HF.out; rw [List.drop_eq_nil_of_le (by have := HM.out; omega)] at this; exact this.symm
      go_wp2
      go_ret
      exact ⟨⟨-1, rfl, by rw [e]; rfl⟩, HB.out⟩
set_option maxRecDepth 100000 in
set_option maxHeartbeats 1000000 in
theorem ContainsFuncSatisfies1_c (n : Nat) (A0 : Option Addr) (c0 : Nat) (xs : List Int) (B0 : Option Addr) (d0 : Nat) (ys : List Int) (hn1 : 1 ≤ n) (hn : n ≤ 40) (hl0 : xs.length = n * n) (hin : M.InP n xs) (hy : ys.length ≤ 4) (hyin : M.InP n ys) (b0 b1 : Nat) (A : Option Addr) (c : Nat) (rs : List M.Rule) (w : World) (h0 : CapT w b0 b1 n A0 c0 xs B0 d0 ys) (hA : Rd w 2 A rs.length (ruls rs)) (hl : rs.length ≤ 1048576) (hs : ∀ r ∈ rs, M.Fit ys.length r) :
    Calls Try.prog 114 #[.slice A rs.length c, .func (.func 136) #[] #[.pointer (some ⟨b0, 0, none⟩), .pointer (some ⟨b1, 0, none⟩)]] w fun e w' => e = .returned (.bool (rs.any (M.misfit n xs ys))) ∧ Below w.heap.size w w' := by
  have h1 := Lib.hid (IndexFuncSatisfies1_c n A0 c0 xs B0 d0 ys hn1 hn hl0 hin hy hyin b0 b1 A c rs w h0 hA hl hs)
  clear hA hs
  generalize rs.any (M.misfit n xs ys) = q at *
  go_enter Try.func114, Try.ntmps114
  go_wp2_with fail
  refine h1.out.mono ?_
  rintro e w1 ⟨⟨z, rfl, hz⟩, hb⟩
  go_wp2_with fail
  go_ret
  exact ⟨rfl, hb⟩

end Go.Proofs.Ytlohpphmamapeaa
