/-
  Contracts of SidesOf.
  Conditions: at most 2^20 rules, words of at most 2^20 bytes.
-/
import Derived.Test.YtoijojdegohknaaApply
namespace Go.Proofs.Ytoijojdegohknaa
open Go.RowKit
set_option linter.unusedVariables false

structure M.Sides where
  u : List UInt8
  v : List UInt8
  ok : Bool
def M.SidesOf (k : Int) (rs : List M.Rule) (l : List UInt8) (x y : M.Step) : M.Sides := if M.SystemOk k rs = true then (if (M.ApplyStep k rs l x).2 = true ∧ (M.ApplyStep k rs l y).2 = true then ⟨(M.ApplyStep k rs l x).1, (M.ApplyStep k rs l y).1, true⟩ else ⟨[], [], false⟩) else ⟨[], [], false⟩
set_option maxRecDepth 100000 in
set_option maxHeartbeats 4000000 in
theorem spec_SidesOf_c (k : Int) (A : Option Addr) (c : Nat) (rs : List M.Rule) (l : List UInt8) (ar ap br bp : Int) (w : World) (hA : Rd w 2 A rs.length (ruls rs)) (hl : rs.length ≤ 1048576) (hs : ∀ r ∈ rs, r.left.length ≤ 1048576 ∧ r.right.length ≤ 1048576) (hll : l.length ≤ 1048576) :
    Calls Try.prog 52 #[.agg #[.int .i64 k, .slice A rs.length c], .agg #[.string ⟨l.toArray⟩, .int .i64 ar, .int .i64 ap, .int .i64 br, .int .i64 bp]] w fun e w' => e = .returned (.tuple #[.string ⟨(M.SidesOf k rs l ⟨ar, ap⟩ ⟨br, bp⟩).u.toArray⟩, .string ⟨(M.SidesOf k rs l ⟨ar, ap⟩ ⟨br, bp⟩).v.toArray⟩, .bool (M.SidesOf k rs l ⟨ar, ap⟩ ⟨br, bp⟩).ok]) ∧ Below w.heap.size w w' := by
  have h1 := Lib.hid (fun W hA => spec_SystemOk_c k A c rs W hA hl hs)
  have h2 := Lib.hid (fun W hA => spec_ApplyStep_c k A c rs l ⟨ar, ap⟩ W hA hl hs hll)
  have h3 := Lib.hid (fun W hA => spec_ApplyStep_c k A c rs l ⟨br, bp⟩ W hA hl hs hll)
  have HA := Lib.hid hA
  have HP := Lib.hid (fun (o p : Obj) => ((Below.refl w.heap.size w).alloc (Nat.le_refl _) o).alloc (by simp) p)
  unfold M.SidesOf
  clear hA hs
  generalize M.SystemOk k rs = x at *
  generalize M.ApplyStep k rs l ⟨ar, ap⟩ = u at *
  generalize M.ApplyStep k rs l ⟨br, bp⟩ = v at *
  obtain ⟨ul, ub⟩ := u
  obtain ⟨vl, vb⟩ := v
  simp only at h2 h3 ⊢
  cases x
  case false =>
    rw [if_neg (by simp)]
    go_enter Try.func52, Try.ntmps52
    go_wp2_with fail
    refine (h1.out _ (HA.out.below (HP.out _ _))).mono ?_
    rintro e w1 ⟨rfl, hb⟩
    go_wp2_with fail
    refine bodyPost_ret (v := .tuple #[.string ⟨#[]⟩, .string ⟨#[]⟩, .bool false]) (by simp [results, Try.results52, go_sem]) rfl ⟨rfl, below_alloc2 hb⟩
  case true =>
  rw [if_pos rfl]
  cases ub
  all_goals
    cases vb
    all_goals
      first | rw [if_pos ⟨rfl, rfl⟩] | rw [if_neg (by simp)]
      go_enter Try.func52, Try.ntmps52
      go_wp2_with fail
      refine (h1.out _ (HA.out.below (HP.out _ _))).mono ?_
      rintro e w1 ⟨rfl, hb⟩
      have s0 : w1.cell? ⟨w.heap.size, 0, none⟩ = some (.int .i64 k) := cellKeep hb (by simp [go_sem])
      have s1 : w1.cell? ⟨w.heap.size, 1, none⟩ = some (.slice A rs.length c) := cellKeep hb (by simp [go_sem])
      have p0 : w1.cell? ⟨w.heap.size + 1, 0, none⟩ = some (.string ⟨l.toArray⟩) := cellKeep hb (by simp [go_sem])
      have p1 : w1.cell? ⟨w.heap.size + 1, 1, none⟩ = some (.int .i64 ar) := cellKeep hb (by simp [go_sem])
      have p2 : w1.cell? ⟨w.heap.size + 1, 2, none⟩ = some (.int .i64 ap) := cellKeep hb (by simp [go_sem])
      have p3 : w1.cell? ⟨w.heap.size + 1, 3, none⟩ = some (.int .i64 br) := cellKeep hb (by simp [go_sem])
      have p4 : w1.cell? ⟨w.heap.size + 1, 4, none⟩ = some (.int .i64 bp) := cellKeep hb (by simp [go_sem])
      have HB := Lib.hid (below_alloc2 hb)
      clear hb
      go_wp2_with fail
      refine (h2.out _ (HA.out.below HB.out)).mono ?_
      rintro e w2 ⟨rfl, hb2⟩
      replace s0 := cellKeep hb2 s0
      replace s1 := cellKeep hb2 s1
      replace p0 := cellKeep hb2 p0
      replace p3 := cellKeep hb2 p3
      replace p4 := cellKeep hb2 p4
      have HB2 := Lib.hid (HB.out.trans (hb2.mono HB.out.size))
      clear hb2 p1 p2
      go_wp2_with fail
      refine (h3.out _ (HA.out.below HB2.out)).mono ?_
      rintro e w3 ⟨rfl, hb3⟩
      have HB3 := Lib.hid (HB2.out.trans (hb3.mono HB2.out.size))
      clear hb3 s0 s1 p0 p3 p4
      go_wp2_with fail
      first
        | exact bodyPost_ret (v := .tuple #[.string ⟨ul.toArray⟩, .string ⟨vl.toArray⟩, .bool true]) (by simp [results, Try.results52, go_sem]; done) rfl ⟨rfl, HB3.out⟩
        | exact bodyPost_ret (v := .tuple #[.string ⟨#[]⟩, .string ⟨#[]⟩, .bool false]) (by simp [results, Try.results52, go_sem]; done) rfl ⟨rfl, HB3.out⟩
set_option maxRecDepth 100000 in
set_option maxHeartbeats 4000000 in
theorem impl_SidesOf_c (k : Int) (A : Option Addr) (c : Nat) (rs : List M.Rule) (l : List UInt8) (ar ap br bp : Int) (w : World) (hA : Rd w 2 A rs.length (ruls rs)) (hl : rs.length ≤ 1048576) (hs : ∀ r ∈ rs, r.left.length ≤ 1048576 ∧ r.right.length ≤ 1048576) (hll : l.length ≤ 1048576) :
    Calls Try.prog 54 #[.agg #[.int .i64 k, .slice A rs.length c], .agg #[.string ⟨l.toArray⟩, .int .i64 ar, .int .i64 ap, .int .i64 br, .int .i64 bp]] w fun e w' => e = .returned (.tuple #[.string ⟨(M.SidesOf k rs l ⟨ar, ap⟩ ⟨br, bp⟩).u.toArray⟩, .string ⟨(M.SidesOf k rs l ⟨ar, ap⟩ ⟨br, bp⟩).v.toArray⟩, .bool (M.SidesOf k rs l ⟨ar, ap⟩ ⟨br, bp⟩).ok]) ∧ Below w.heap.size w w' := by
  have h1 := Lib.hid (fun W hA => impl_SystemOk_c k A c rs W hA hl hs)
  have h2 := Lib.hid (fun W hA => impl_ApplyStep_c k A c rs l ⟨ar, ap⟩ W hA hl hs hll)
  have h3 := Lib.hid (fun W hA => impl_ApplyStep_c k A c rs l ⟨br, bp⟩ W hA hl hs hll)
  have HA := Lib.hid hA
  have HP := Lib.hid (fun (o p : Obj) => ((Below.refl w.heap.size w).alloc (Nat.le_refl _) o).alloc (by simp) p)
  unfold M.SidesOf
  clear hA hs
  generalize M.SystemOk k rs = x at *
  generalize M.ApplyStep k rs l ⟨ar, ap⟩ = u at *
  generalize M.ApplyStep k rs l ⟨br, bp⟩ = v at *
  obtain ⟨ul, ub⟩ := u
  obtain ⟨vl, vb⟩ := v
  simp only at h2 h3 ⊢
  cases x
  case false =>
    rw [if_neg (by simp)]
    go_enter Try.func54, Try.ntmps54
    go_wp2_with fail
    refine (h1.out _ (HA.out.below (HP.out _ _))).mono ?_
    rintro e w1 ⟨rfl, hb⟩
    go_wp2_with fail
    refine bodyPost_ret (v := .tuple #[.string ⟨#[]⟩, .string ⟨#[]⟩, .bool false]) (by simp [results, Try.results54, go_sem]) rfl ⟨rfl, below_alloc2 hb⟩
  case true =>
  rw [if_pos rfl]
  cases ub
  all_goals
    cases vb
    all_goals
      first | rw [if_pos ⟨rfl, rfl⟩] | rw [if_neg (by simp)]
      go_enter Try.func54, Try.ntmps54
      go_wp2_with fail
      refine (h1.out _ (HA.out.below (HP.out _ _))).mono ?_
      rintro e w1 ⟨rfl, hb⟩
      have s0 : w1.cell? ⟨w.heap.size, 0, none⟩ = some (.int .i64 k) := cellKeep hb (by simp [go_sem])
      have s1 : w1.cell? ⟨w.heap.size, 1, none⟩ = some (.slice A rs.length c) := cellKeep hb (by simp [go_sem])
      have p0 : w1.cell? ⟨w.heap.size + 1, 0, none⟩ = some (.string ⟨l.toArray⟩) := cellKeep hb (by simp [go_sem])
      have p1 : w1.cell? ⟨w.heap.size + 1, 1, none⟩ = some (.int .i64 ar) := cellKeep hb (by simp [go_sem])
      have p2 : w1.cell? ⟨w.heap.size + 1, 2, none⟩ = some (.int .i64 ap) := cellKeep hb (by simp [go_sem])
      have p3 : w1.cell? ⟨w.heap.size + 1, 3, none⟩ = some (.int .i64 br) := cellKeep hb (by simp [go_sem])
      have p4 : w1.cell? ⟨w.heap.size + 1, 4, none⟩ = some (.int .i64 bp) := cellKeep hb (by simp [go_sem])
      have HB := Lib.hid (below_alloc2 hb)
      clear hb
      go_wp2_with fail
      refine (h2.out _ (HA.out.below HB.out)).mono ?_
      rintro e w2 ⟨rfl, hb2⟩
      replace s0 := cellKeep hb2 s0
      replace s1 := cellKeep hb2 s1
      replace p0 := cellKeep hb2 p0
      replace p3 := cellKeep hb2 p3
      replace p4 := cellKeep hb2 p4
      have HB2 := Lib.hid (HB.out.trans (hb2.mono HB.out.size))
      clear hb2 p1 p2
      go_wp2_with fail
      refine (h3.out _ (HA.out.below HB2.out)).mono ?_
      rintro e w3 ⟨rfl, hb3⟩
      have HB3 := Lib.hid (HB2.out.trans (hb3.mono HB2.out.size))
      clear hb3 s0 s1 p0 p3 p4
      go_wp2_with fail
      first
        | exact bodyPost_ret (v := .tuple #[.string ⟨ul.toArray⟩, .string ⟨vl.toArray⟩, .bool true]) (by simp [results, Try.results54, go_sem]; done) rfl ⟨rfl, HB3.out⟩
        | exact bodyPost_ret (v := .tuple #[.string ⟨#[]⟩, .string ⟨#[]⟩, .bool false]) (by simp [results, Try.results54, go_sem]; done) rfl ⟨rfl, HB3.out⟩

end Go.Proofs.Ytoijojdegohknaa
