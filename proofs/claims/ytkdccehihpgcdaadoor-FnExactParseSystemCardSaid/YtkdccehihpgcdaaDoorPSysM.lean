/-
  The plain law of ParseSystem.
  Conditions: none; no program in this text.
-/
import Derived.Test.YtkdccehihpgcdaaDoorPIntM
import Derived.Test.YtkdccehihpgcdaaDoorParse
import Derived.Test.YtkdccehihpgcdaaDoorFmtSys
namespace Go.Proofs.YtkdccehihpgcdaaDoor
open Go.RowKit
set_option linter.unusedVariables false
set_option linter.unusedSimpArgs false

def M.psN (l : List UInt8) : Int := (M.parseInt ((M.SplitAny l [32]).headD [])).1
def M.psF (x : List UInt8) : M.Rule := (M.ParseRule x).1
def M.psR (l : List UInt8) : List M.Rule := ((M.SplitAny l [32]).drop 1).map M.psF
def M.psB (l : List UInt8) : Bool := decide (l ≠ [] ∧ M.FormatSystem (M.psN l) (M.psR l) = l)
def M.psK (l : List UInt8) : Int := if M.psB l = true then M.psN l else 0
def M.psQ (l : List UInt8) : List M.Rule := if M.psB l = true then M.psR l else []
theorem ps_no {l : List UInt8} (h : M.psB l = false) : M.psK l = 0 ∧ M.psQ l = [] := ⟨if_neg (by rw [h]; simp), if_neg (by rw [h]; simp)⟩
theorem ps_yes {l : List UInt8} (h : M.psB l = true) : M.psK l = M.psN l ∧ M.psQ l = M.psR l := ⟨if_pos h, if_pos h⟩
theorem psB_iff (l : List UInt8) : M.psB l = true ↔ l ≠ [] ∧ M.FormatSystem (M.psN l) (M.psR l) = l := by unfold M.psB; simp
theorem ps_rules {l : List UInt8} (h : M.psB l = true) : M.RulesOk (M.psN l) (M.psR l) = true := by
  obtain ⟨h1, h2⟩ := (psB_iff l).1 h
  by_cases hr : M.RulesOk (M.psN l) (M.psR l) = true
  · exact hr
  · rw [fs_no (by simpa using hr)] at h2
    exact absurd h2.symm h1
theorem ps_false {l : List UInt8} (h : ¬ (M.psB l = true)) : M.psB l = false := by simpa using h
theorem parseInt_zero {x : List UInt8} (h : (M.parseInt x).2 = false) : (M.parseInt x).1 = 0 := by
  rcases parse_or x with ⟨v, _, _, hp⟩ | ⟨_, hp⟩
  · rw [hp] at h; cases h
  · rw [hp]
theorem parseRule_zero {x : List UInt8} (h : (M.ParseRule x).2 = false) : (M.ParseRule x).1 = ⟨[], []⟩ := by
  unfold M.ParseRule M.ruleOf at h ⊢
  split at h
  · cases h
  · rename_i hn; rw [if_neg hn]
theorem ps_bad1 {l : List UInt8} (h : (M.parseInt ((M.SplitAny l [32]).headD [])).2 = false) : M.psB l = false := ps_false fun hb => by
  have h1 := (fs_parts (ps_rules hb)).1
  have h2 : M.psN l = 0 := parseInt_zero h
  omega
theorem ps_bad2 {l x : List UInt8} (hx : x ∈ (M.SplitAny l [32]).drop 1) (h : (M.ParseRule x).2 = false) : M.psB l = false := ps_false fun hb => by
  have h1 := ps_rules hb
  unfold M.RulesOk at h1
  have h3 := (Bool.and_eq_true_iff.1 (Bool.and_eq_true_iff.1 h1).2).2
  have hr : (⟨[], []⟩ : M.Rule) ∈ M.psR l := List.mem_map.2 ⟨x, hx, parseRule_zero h⟩
  have hb : (M.psR l).any (M.ruleBad (M.psN l)) = true := List.any_eq_true.2 ⟨_, hr, by unfold M.ruleBad; simp⟩
  rw [hb] at h3
  cases h3
theorem ps_bad3 {l : List UInt8} (h : M.RulesOk (M.psN l) (M.psR l) = false) : M.psB l = false := ps_false fun hb => by rw [ps_rules hb] at h; cases h
theorem ps_bad4 {l : List UInt8} (h : ¬ M.FormatSystem (M.psN l) (M.psR l) = l) : M.psB l = false := ps_false fun hb => h ((psB_iff l).1 hb).2
theorem ps_bad5 {l : List UInt8} (h : 13 < (M.SplitAny l [32]).length) : M.psB l = false := ps_false fun hb => by
  have h1 := (fs_parts (ps_rules hb)).2.1
  unfold M.psR at h1
  rw [List.length_map, List.length_drop] at h1
  omega
theorem ps_bad6 {l : List UInt8} (h : l = []) : M.psB l = false := ps_false fun hb => ((psB_iff l).1 hb).1 h
theorem ps_ok {l : List UInt8} (h : M.RulesOk (M.psN l) (M.psR l) = true) (hf : M.FormatSystem (M.psN l) (M.psR l) = l) : M.psB l = true := (psB_iff l).2 ⟨fun e => by
  have h1 := hf
  rw [fs_yes h] at h1
  have h2 : (M.fmtTo (M.psN l) (M.psR l) (M.psR l).length).length = 0 := by rw [h1, e]; rfl
  unfold M.fmtTo at h2
  rw [List.length_append] at h2
  have h3 : 1 ≤ (Lib.itoa (M.psN l)).length := by
    unfold Lib.itoa
    split
    · simp
    · have := (dec_all (M.psN l).toNat).2.1
      cases hd : Lib.decDigits (M.psN l).toNat with
      | nil => exact absurd hd this
      | cons a r => simp
  omega, hf⟩
theorem ps_ok' {l : List UInt8} (h : l ≠ []) (hf : M.FormatSystem (M.psN l) (M.psR l) = l) : M.psB l = true := (psB_iff l).2 ⟨h, hf⟩
theorem psF_len (x : List UInt8) : (M.psF x).left.length ≤ 16 ∧ (M.psF x).right.length ≤ 16 := by
  unfold M.psF M.ParseRule M.ruleOf
  split
  · rename_i h
    have key : ∀ y, M.WordOk 4 y = true → y.length ≤ 16 := fun y hy => by
      unfold M.WordOk at hy
      have := (Bool.and_eq_true_iff.1 (Bool.and_eq_true_iff.1 hy).2).1
      have := of_decide_eq_true this
      omega
    exact ⟨key _ h.1, key _ h.2.1⟩
  · simp
theorem psR_len {l : List UInt8} {n : Nat} (h : (M.SplitAny l [32]).length = n + 1) : (M.psR l).length = n := by unfold M.psR; rw [List.length_map, List.length_drop]; omega
theorem psR_sides (l : List UInt8) : ∀ r ∈ M.psR l, r.left.length ≤ 1048576 ∧ r.right.length ≤ 1048576 := fun r hr => by
  obtain ⟨x, _, rfl⟩ := List.mem_map.1 hr
  have := psF_len x
  omega
theorem psR_succ {l : List UInt8} {i : Nat} (h : i + 1 < (M.SplitAny l [32]).length) : ruls ((M.psR l).take (i + 1)) = ruls ((M.psR l).take i) ++ [.string ⟨(M.psF ((M.SplitAny l [32])[i + 1])).left.toArray⟩, .string ⟨(M.psF ((M.SplitAny l [32])[i + 1])).right.toArray⟩] := by
  have hl : i < (M.psR l).length := by unfold M.psR; rw [List.length_map, List.length_drop]; omega
  have hg : (M.psR l)[i]? = some (M.psF ((M.SplitAny l [32])[i + 1])) := by
    unfold M.psR
    rw [List.getElem?_map, List.getElem?_drop, Nat.add_comm 1 i, List.getElem?_eq_getElem h]
    rfl
  rw [List.getElem?_eq_getElem hl] at hg
  injection hg with hg
  rw [List.take_succ_eq_append_getElem hl, ruls_add, hg]
  rfl
theorem psR_next {l : List UInt8} (i : Nat) (x : List UInt8) (h : (M.SplitAny l [32])[i + 1]? = some x) : ruls ((M.psR l).take (i + 1)) = ruls ((M.psR l).take i) ++ [.string ⟨(M.psF x).left.toArray⟩, .string ⟨(M.psF x).right.toArray⟩] := by
  obtain ⟨hi, rfl⟩ := List.getElem?_eq_some_iff.1 h
  exact psR_succ hi
theorem ps_head {l x : List UInt8} (h : (M.SplitAny l [32])[0]? = some x) : (M.parseInt x).1 = M.psN l ∧ ((M.parseInt x).2 = false → M.psB l = false) := by
  have e : (M.SplitAny l [32]).headD [] = x := by
    cases hz : M.SplitAny l [32] with
    | nil => rw [hz] at h; cases h
    | cons a r => rw [hz] at h; injection h with h
  exact ⟨by unfold M.psN; rw [e], fun h2 => ps_bad1 (by rw [e]; exact h2)⟩
theorem ps_fine {l : List UInt8} (i : Nat) (x : List UInt8) (h : (M.SplitAny l [32])[i + 1]? = some x) (h2 : (M.ParseRule x).2 = false) : M.psB l = false :=
  ps_bad2 (List.mem_of_getElem? (i := i) (by rw [List.getElem?_drop, Nat.add_comm 1 i]; exact h)) h2
/-- A call that returns a system of its own and whether there is one. -/
def RetSys (k : Int) (rs : List M.Rule) (b : Bool) (w : World) (x : Ending) (w' : World) : Prop :=
  ∃ A c, x = .returned (.tuple #[.agg #[.int .i64 k, .slice A rs.length c], .bool b]) ∧ Own w' w.heap.size 2 A rs.length (ruls rs) ∧ Below w.heap.size w w'
theorem retPs_no {l : List UInt8} {w w' : World} (h : M.psB l = false) (hb : Below w.heap.size w w') : RetSys (M.psK l) (M.psQ l) (M.psB l) w (.returned (.tuple #[.agg #[.int .i64 0, .slice none 0 0], .bool false])) w' := by
  obtain ⟨e1, e2⟩ := ps_no h
  rw [e1, e2, h]
  exact ⟨none, 0, rfl, ⟨rfl, fun h => absurd h (by simp)⟩, hb⟩
theorem retPs_yes {l : List UInt8} {w w' : World} {k : Int} {A : Option Addr} {n c : Nat} {rs : List M.Rule} (h : M.psB l = true) (hk : k = M.psN l) (hr : rs = M.psR l) (hn : n = rs.length) (ho : Own w' w.heap.size 2 A n (ruls rs)) (hb : Below w.heap.size w w') : RetSys (M.psK l) (M.psQ l) (M.psB l) w (.returned (.tuple #[.agg #[.int .i64 k, .slice A n c], .bool true])) w' := by
  obtain ⟨e1, e2⟩ := ps_yes h
  subst hk hr hn
  rw [e1, e2, h]
  exact ⟨A, c, rfl, ho, hb⟩
end Go.Proofs.YtkdccehihpgcdaaDoor
