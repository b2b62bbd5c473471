/-
  Contracts of IsInterreduced.
  Conditions: at most 2^20 rules.
-/
import Derived.Test.YtlohpphmamapeaaOkC2
import Derived.Test.YtlohpphmamapeaaPlaces
import Derived.Test.YtlohpphmamapeaaShelf
import Derived.Lib.IndexMore
namespace Go.Proofs.Ytlohpphmamapeaa
open Go.RowKit
set_option linter.unusedVariables false

/-- Whether a part lies in a word. -/
def M.occ (l p : List UInt8) : Bool := decide (0 < (M.PlacesOf l p).length)
def M.bad (rs : List M.Rule) (i j : Nat) : Bool := match rs[i]?, rs[j]? with
  | some r, some x => (decide (i ≠ j) && M.occ r.left x.left) || M.occ r.right x.left
  | _, _ => false
def M.interOk (rs : List M.Rule) : Bool := (List.range rs.length).all fun i => (List.range rs.length).all fun j => !M.bad rs i j
def M.IsInterreduced (k : Int) (rs : List M.Rule) : Bool := M.SystemOk k rs && M.interOk rs
theorem inter_yes {rs : List M.Rule} (h : ∀ i j, i < rs.length → j < rs.length → M.bad rs i j = false) : M.interOk rs = true := by
  unfold M.interOk
  rw [List.all_eq_true]
  intro i hi
  rw [List.all_eq_true]
  intro j hj
  rw [h i j (List.mem_range.1 hi) (List.mem_range.1 hj)]
  rfl
theorem inter_no {rs : List M.Rule} {i j : Nat} (hi : i < rs.length) (hj : j < rs.length) (h : M.bad rs i j = true) : M.interOk rs = false := by
  cases hq : M.interOk rs
  · rfl
  · unfold M.interOk at hq
    rw [List.all_eq_true] at hq
    have := hq i (List.mem_range.2 hi)
    rw [List.all_eq_true] at this
    have := this j (List.mem_range.2 hj)
    rw [h] at this
    cases this
theorem bad_at {rs : List M.Rule} {i j : Nat} (hi : i < rs.length) (hj : j < rs.length) : M.bad rs i j = ((decide (i ≠ j) && M.occ rs[i].left rs[j].left) || M.occ rs[i].right rs[j].left) := by simp [M.bad, hi, hj]
theorem left_pos {k : Int} {rs : List M.Rule} (h : M.SystemOk k rs = true) {r : M.Rule} (hr : r ∈ rs) : r.left ≠ [] := by
  unfold M.SystemOk at h
  have h1 := (Bool.and_eq_true_iff.1 h).1
  unfold M.RulesOk at h1
  intro e
  have h2 : rs.any (M.ruleBad k) = true := List.any_eq_true.2 ⟨r, hr, by unfold M.ruleBad; rw [e]; simp⟩
  rw [h2] at h1
  simp at h1
theorem rulesLe {k : Int} {rs : List M.Rule} (h : M.SystemOk k rs = true) : rs.length ≤ 12 := by
  unfold M.SystemOk at h
  have h1 := (Bool.and_eq_true_iff.1 h).1
  unfold M.RulesOk at h1
  simp only [Bool.and_eq_true, decide_eq_true_eq] at h1
  omega
theorem occ_index {l p : List UInt8} (hp : p ≠ []) : Lib.contains l p = M.occ l p := by
  have hP : M.PlacesOf l p = M.sel (fun i => M.pre p (l.drop i)) l.length := if_neg hp
  have hocc : ∀ i, Lib.occAt l p i = M.pre p (l.drop i) := fun i => by
    unfold Lib.occAt M.pre
    rw [Bool.eq_iff_iff, List.isPrefixOf_iff_prefix, decide_eq_true_eq, List.prefix_iff_eq_take]
    exact ⟨fun h => h.symm, fun h => h.symm⟩
  unfold Lib.contains M.occ
  rw [hP]
  rcases Lib.index_spec l p with ⟨h1, h2⟩ | ⟨i, h1, h2, h3, _⟩
  · rw [h1, M.sel_more (p := fun i => M.pre p (l.drop i)) (k := 0) l.length (Nat.zero_le _) (fun j _ hj => by rw [← hocc]; exact h2 j (by omega))]
    simp [M.sel]
  · have hlt : i < l.length := by
      have h4 := Lib.index_room l p (by rw [h1]; omega)
      have h5 : 0 < p.length := by cases p with | nil => exact absurd rfl hp | cons a r => simp
      omega
    have hm : (i : Int) ∈ M.sel (fun i => M.pre p (l.drop i)) l.length := by
      unfold M.sel
      rw [List.mem_map]
      exact ⟨i, List.mem_filter.2 ⟨List.mem_range.2 hlt, by rw [← hocc]; exact h3⟩, rfl⟩
    have hpos := List.length_pos_of_mem hm
    rw [h1]
    simp only [decide_eq_true hpos]
    exact decide_eq_true (by omega)
theorem contains_c (l p : List UInt8) (m : Int) (w : World) (hl : l.length ≤ 1048576) (hp : p ≠ []) (hm : w.cell? ⟨0, 0, none⟩ = some (.int .i64 m)) : Calls Try.prog 103 #[.string ⟨l.toArray⟩, .string ⟨p.toArray⟩] w fun e w' => e = .returned (.bool (M.occ l p)) ∧ w = w' := by
  have h := Try.strings_Contains ⟨l.toArray⟩ ⟨p.toArray⟩ m w (by simp [ByteArray.size]; omega) hm
  refine h.mono fun e w' ⟨he, hw⟩ => ⟨?_, hw.symm⟩
  rw [he, ← occ_index hp]

end Go.Proofs.Ytlohpphmamapeaa
