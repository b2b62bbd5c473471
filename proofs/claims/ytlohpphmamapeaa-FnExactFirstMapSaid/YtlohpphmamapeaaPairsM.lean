/-
  Contracts of PairsOf.
  Conditions: at most 2^20 rules.
-/
import Derived.Test.YtlohpphmamapeaaRecPair
import Derived.Test.YtlohpphmamapeaaInter
import Derived.Test.YtlohpphmamapeaaPushM
import Derived.Test.YtlohpphmamapeaaOwn
import Derived.BigQuiet
namespace Go.Proofs.Ytlohpphmamapeaa
open Go.RowKit
set_option linter.unusedVariables false

def M.lft (rs : List M.Rule) (i : Nat) : List UInt8 := match rs[i]? with
  | some r => r.left
  | none => []
theorem lft_at {rs : List M.Rule} {i : Nat} (h : i < rs.length) : M.lft rs i = rs[i].left := by simp [M.lft, h]
def M.inPair (rs : List M.Rule) (i j : Nat) (p : Int) : M.Pair := ⟨M.lft rs i, i, 0, j, p⟩
def M.acPair (rs : List M.Rule) (i j : Nat) (n : Int) : M.Pair := ⟨M.lft rs i ++ (M.lft rs j).drop n.toNat, i, 0, j, (M.lft rs i).length - n⟩
def M.inside (rs : List M.Rule) (i j : Nat) : List M.Pair := if i = j then [] else (M.PlacesOf (M.lft rs i) (M.lft rs j)).map (M.inPair rs i j)
def M.across (rs : List M.Rule) (i j : Nat) : List M.Pair := (M.OverlapsOf (M.lft rs i) (M.lft rs j)).map (M.acPair rs i j)
def M.pairRow (rs : List M.Rule) (i : Nat) : Nat → List M.Pair
  | 0 => []
  | j + 1 => M.pairRow rs i j ++ M.inside rs i j ++ M.across rs i j
def M.pairTo (rs : List M.Rule) : Nat → List M.Pair
  | 0 => []
  | i + 1 => M.pairTo rs i ++ M.pairRow rs i rs.length
def M.PairsOf (k : Int) (rs : List M.Rule) : List M.Pair := if M.SystemOk k rs = true then M.pairTo rs rs.length else []
theorem sides8 {k : Int} {rs : List M.Rule} (h : M.SystemOk k rs = true) {i : Nat} : (M.lft rs i).length ≤ 8 := by
  by_cases hi : i < rs.length
  · rw [lft_at hi]
    unfold M.SystemOk at h
    have h1 := (Bool.and_eq_true_iff.1 h).1
    unfold M.RulesOk at h1
    have h2 := (Bool.and_eq_true_iff.1 (Bool.and_eq_true_iff.1 h1).2).2
    by_cases hl : rs[i].left.length ≤ 8
    · exact hl
    · have hb : M.ruleBad k rs[i] = true := by
        unfold M.ruleBad M.SidesOk
        have : decide ((rs[i].left.length : Int) ≤ 8) = false := decide_eq_false (by omega)
        simp [this]
      have h3 : rs.any (M.ruleBad k) = true := List.any_eq_true.2 ⟨rs[i], List.getElem_mem hi, hb⟩
      rw [h3] at h2
      cases h2
  · simp [M.lft, hi]
theorem overlaps_len (u v : List UInt8) : (M.OverlapsOf u v).length ≤ u.length := Nat.le_trans (M.sel_len _ _) (by omega)
theorem places_len (u v : List UInt8) : (M.PlacesOf u v).length ≤ u.length := by unfold M.PlacesOf; split <;> (first | simp | exact M.sel_len _ _)
theorem inside_len {rs : List M.Rule} (h8 : ∀ i, (M.lft rs i).length ≤ 8) (i j : Nat) : (M.inside rs i j).length ≤ 8 := by
  unfold M.inside
  split
  · simp
  · rw [List.length_map]; exact Nat.le_trans (places_len _ _) (h8 i)
theorem across_len {rs : List M.Rule} (h8 : ∀ i, (M.lft rs i).length ≤ 8) (i j : Nat) : (M.across rs i j).length ≤ 8 := by
  unfold M.across
  rw [List.length_map]
  exact Nat.le_trans (overlaps_len _ _) (h8 i)
theorem row_len8 {rs : List M.Rule} (h8 : ∀ i, (M.lft rs i).length ≤ 8) (i : Nat) : ∀ j, (M.pairRow rs i j).length ≤ j * 16
  | 0 => by simp [M.pairRow]
  | j + 1 => by
    have h1 := row_len8 h8 i j
    have h2 := inside_len h8 i j
    have h3 := across_len h8 i j
    simp only [M.pairRow, List.length_append]
    omega
theorem to_len8 {rs : List M.Rule} (h8 : ∀ i, (M.lft rs i).length ≤ 8) (hn : rs.length ≤ 12) : ∀ i, (M.pairTo rs i).length ≤ i * 192
  | 0 => by simp [M.pairTo]
  | i + 1 => by
    have h1 := to_len8 h8 hn i
    have h2 := row_len8 h8 i rs.length
    simp only [M.pairTo, List.length_append]
    omega
theorem pairsOf_len (k : Int) (rs : List M.Rule) : (M.PairsOf k rs).length ≤ 13000000 := by
  unfold M.PairsOf
  split
  · rename_i h
    have h1 := rulesLe h
    have h2 := to_len8 (fun i => sides8 h) h1 rs.length
    omega
  · simp
theorem sel_mem {p : Nat → Bool} {k : Nat} {z : Int} (h : z ∈ M.sel p k) : ∃ i : Nat, z = i ∧ i < k := by
  unfold M.sel at h
  obtain ⟨i, hi, rfl⟩ := List.mem_map.1 h
  exact ⟨i, rfl, List.mem_range.1 (List.mem_filter.1 hi).1⟩
theorem places_mem {u v : List UInt8} {z : Int} (h : z ∈ M.PlacesOf u v) : ∃ i : Nat, z = i ∧ i ≤ u.length := by
  unfold M.PlacesOf at h
  split at h
  · simp at h
  · obtain ⟨i, rfl, hi⟩ := sel_mem h
    exact ⟨i, rfl, by omega⟩
theorem overlaps_mem {u v : List UInt8} {z : Int} (h : z ∈ M.OverlapsOf u v) : ∃ i : Nat, z = i ∧ i ≤ u.length ∧ i ≤ v.length := by
  obtain ⟨i, rfl, hi⟩ := sel_mem h
  exact ⟨i, rfl, by omega, by omega⟩
theorem pairs_one (xs : List M.Pair) : ∀ u ∈ pairs_ xs, u.oneCell' = true := fun u hu => by
  obtain ⟨r, _, h⟩ := List.mem_flatMap.1 hu
  simp [pairCells] at h
  rcases h with rfl | rfl | rfl | rfl | rfl <;> simp [Value.oneCell']
theorem own_empty (w : World) (o : Obj) : ((w.alloc o).alloc (.cells #[] 131)).ownsRow (w.heap.size + 1) 131 5 (.slice (some ⟨w.heap.size + 1, 0, none⟩) 0 0) 0 [] := by
  have h := World.ownsRow_lit (e := 131) (size := 5) (w.alloc o) #[] 0 (Nat.le_refl _) (by simp [maxLen]) (by simp)
  simpa using h
/-- A call that returns a slice of pairs of its own that is not nil. -/
def RetPairs (xs : List M.Pair) (w : World) (x : Ending) (w' : World) : Prop :=
  ∃ ad c, x = .returned (.slice (some ad) xs.length c) ∧ w'.ownsRow w.heap.size 131 5 (.slice (some ad) xs.length c) xs.length (pairs_ xs) ∧ Below w.heap.size w w'
theorem own_some {w : World} {base : Nat} {E : TypeId} {size n c : Nat} {A : Option Addr} {xs : List Value} (h : w.ownsRow base E size (.slice A n c) n xs) (hn : 0 < n) : ∃ ad, A = some ad := by
  obtain ⟨g, o, e, _⟩ := (Own.of_row h).cells hn
  exact ⟨_, e⟩


end Go.Proofs.Ytlohpphmamapeaa
