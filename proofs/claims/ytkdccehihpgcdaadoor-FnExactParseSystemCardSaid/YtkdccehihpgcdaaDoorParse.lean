/-
  Contracts of ParseRule.
  Conditions: texts of at most 2^20 bytes.
-/
import Derived.Test.YtkdccehihpgcdaaDoorWordOk
import Derived.Test.YtkdccehihpgcdaaDoorRuleC
import Derived.Test.YtkdccehihpgcdaaDoorSplit
import Derived.Test.YtkdccehihpgcdaaDoorOwn
import Derived.Test.YtkdccehihpgcdaaDoorToB
import Derived.Test.YtkdccehihpgcdaaDoorEqC
import Derived.Test.YtkdccehihpgcdaaDoorPart
import Derived.Test.YtkdccehihpgcdaaDoorShelf
import Derived.Lib.IndexMore
import Derived.Lib.IndexBytes
import Derived.StillTailTactics
namespace Go.Proofs.YtkdccehihpgcdaaDoor
open Go.RowKit
set_option linter.unusedVariables false
set_option linter.unusedSimpArgs false

theorem indexByte_at {a b : List UInt8} {c : UInt8} (h : c ∉ a) : Lib.indexByte (a ++ c :: b) c = (a.length : Int) := by
  induction a with
  | nil => simp [Lib.indexByte]
  | cons x r ih =>
    have hx : ¬ x = c := fun e => h (by simp [e])
    have ih := ih (fun e => h (by simp [e]))
    rw [List.cons_append]
    simp only [Lib.indexByte]
    rw [ih]
    simp [hx] <;> omega
theorem indexByte_no {s : List UInt8} {c : UInt8} (h : c ∉ s) : Lib.indexByte s c = -1 := by
  induction s with
  | nil => rfl
  | cons x r ih =>
    have hx : ¬ x = c := fun e => h (by simp [e])
    have ih := ih (fun e => h (by simp [e]))
    simp only [Lib.indexByte]
    rw [ih]
    simp [hx]
theorem cut_at {a b : List UInt8} {c : UInt8} (h : c ∉ a) : Lib.cut (a ++ c :: b) [c] = (a, b, true) := by
  unfold Lib.cut
  rw [Lib.index_one, indexByte_at h, if_pos (by omega)]
  simp
theorem cut_no {s : List UInt8} {c : UInt8} (h : c ∉ s) : Lib.cut s [c] = (s, [], false) := by
  unfold Lib.cut
  rw [Lib.index_one, indexByte_no h, if_neg (by omega)]
theorem splitTo_no {s : List UInt8} {c : UInt8} : ∀ k, k ≤ s.length → (∀ i, i < k → s[i]? ≠ some c) → M.splitTo s [c] k = ([], 0)
  | 0, _, _ => rfl
  | k + 1, hk, h => by
    have hlt : k < s.length := by omega
    rw [M.splitTo_no hlt (by
      have := h k (by omega)
      rw [List.getElem?_eq_getElem hlt] at this
      simp only [List.contains_cons, List.contains_nil, Bool.or_false, beq_eq_false_iff_ne]
      exact fun e => this (by rw [e]))]
    exact splitTo_no k (by omega) fun i hi => h i (by omega)
theorem split_none {s : List UInt8} {c : UInt8} (h : c ∉ s) : M.SplitAny s [c] = [s] := by
  unfold M.SplitAny
  rw [splitTo_no s.length (Nat.le_refl _) fun i hi e => h (List.mem_of_getElem? e)]
  simp
theorem splitTo_at {a b : List UInt8} {c : UInt8} (h : c ∉ a) : ∀ j, j ≤ b.length → M.splitTo (a ++ c :: b) [c] (a.length + 1 + j) = (a :: (M.splitTo b [c] j).1, a.length + 1 + (M.splitTo b [c] j).2)
  | 0, _ => by
    have hlt : a.length < (a ++ c :: b).length := by simp
    have hat : (a ++ c :: b)[a.length] = c := by simp
    rw [Nat.add_zero, M.splitTo_yes hlt (by rw [hat]; simp), splitTo_no a.length (by omega) (fun i hi e => by
      rw [List.getElem?_append_left hi] at e
      exact h (List.mem_of_getElem? e))]
    simp [M.splitTo]
  | j + 1, hj => by
    have ih := splitTo_at (b := b) h j (by omega)
    have hlt : a.length + 1 + j < (a ++ c :: b).length := by simp; omega
    have hb : j < b.length := by omega
    have hat : (a ++ c :: b)[a.length + 1 + j] = b[j] := by
      rw [List.getElem_append_right (by omega)]
      simp only [show a.length + 1 + j - a.length = j + 1 by omega, List.getElem_cons_succ]
    rw [← Nat.add_assoc]
    have hle := (M.splitTo_le b [c] j).1
    by_cases hc : [c].contains b[j] = true
    · rw [M.splitTo_yes hlt (by rw [hat]; exact hc), M.splitTo_yes hb hc, ih]
      simp only [List.cons_append]
      rw [Prod.mk.injEq]
      refine ⟨?_, by omega⟩
      congr 3
      rw [show a.length + 1 + j - (a.length + 1 + (M.splitTo b [c] j).2) = j - (M.splitTo b [c] j).2 by omega]
      congr 1
      rw [show a.length + 1 + (M.splitTo b [c] j).2 = (a ++ [c]).length + (M.splitTo b [c] j).2 by simp, show a ++ c :: b = (a ++ [c]) ++ b by simp, List.drop_append]
      simp
    · have hc' : [c].contains b[j] = false := by simpa using hc
      rw [M.splitTo_no hlt (by rw [hat]; exact hc'), M.splitTo_no hb hc', ih]
theorem split_at {a b : List UInt8} {c : UInt8} (h : c ∉ a) : M.SplitAny (a ++ c :: b) [c] = a :: M.SplitAny b [c] := by
  have hl : (a ++ c :: b).length = a.length + 1 + b.length := by simp; omega
  unfold M.SplitAny
  rw [hl, splitTo_at h b.length (Nat.le_refl _)]
  simp only [List.cons_append]
  congr 2
  rw [show a.length + 1 + (M.splitTo b [c] b.length).2 = (a ++ [c]).length + (M.splitTo b [c] b.length).2 by simp, show a ++ c :: b = (a ++ [c]) ++ b by simp, List.drop_append]
  simp

theorem splitTo_mem {s by_ : List UInt8} : ∀ k, ∀ z ∈ (M.splitTo s by_ k).1, z.length ≤ s.length
  | 0, z, h => by simp [M.splitTo] at h
  | k + 1, z, h => by
    rw [M.splitTo] at h
    split at h
    · rcases List.mem_append.1 h with h | h
      · exact splitTo_mem k z h
      · simp at h
        subst h
        simp
        omega
    · exact splitTo_mem k z h
theorem split_mem {s by_ z : List UInt8} (h : z ∈ M.SplitAny s by_) : z.length ≤ s.length := by
  unfold M.SplitAny at h
  rcases List.mem_append.1 h with h | h
  · exact splitTo_mem _ z h
  · simp at h
    subst h
    simp
def M.undot (l : List UInt8) : List UInt8 := if l = [46] then [] else l
def M.ruleOf (a b s : List UInt8) : M.Rule × Bool := if M.WordOk 4 a = true ∧ M.WordOk 4 b = true ∧ M.FormatRule ⟨a, b⟩ = s then (⟨a, b⟩, true) else (⟨[], []⟩, false)
def M.ParseRule (s : List UInt8) : M.Rule × Bool := M.ruleOf (M.undot (Lib.cut s [62]).1) (M.undot (Lib.cut s [62]).2.1) s
theorem word_no62 {l : List UInt8} (h : M.WordOk 4 l = true) : (62 : UInt8) ∉ l := by
  intro hm
  unfold M.WordOk at h
  have h1 := (Bool.and_eq_true_iff.1 (Bool.and_eq_true_iff.1 h).2).2
  unfold M.hasLetters at h1
  rw [List.all_eq_true] at h1
  have := h1 62 hm
  rw [M.isLetter_false (by decide)] at this
  cases this
theorem undot_mem {l : List UInt8} (h : (62 : UInt8) ∈ l) : (62 : UInt8) ∈ M.undot l := by
  unfold M.undot
  split
  · rename_i e; subst e; simp at h
  · exact h
theorem undot_len (l : List UInt8) : (M.undot l).length ≤ l.length := by unfold M.undot; split <;> simp
/-- Where the text does not split in two, it is no rule. -/
theorem parse_no {s : List UInt8} (h : (M.SplitAny s [62]).length ≠ 2) : M.ParseRule s = (⟨[], []⟩, false) := by
  unfold M.ParseRule M.ruleOf
  rw [if_neg]
  rintro ⟨h1, h2, h3⟩
  by_cases hm : (62 : UInt8) ∈ s
  · obtain ⟨a, b, rfl, ha⟩ := List.eq_append_cons_of_mem hm
    rw [cut_at ha] at h2
    rw [split_at ha] at h
    by_cases hb : (62 : UInt8) ∈ b
    · exact word_no62 h2 (undot_mem hb)
    · rw [split_none hb] at h
      simp at h
  · have : (62 : UInt8) ∈ s := by rw [← h3]; simp [M.FormatRule]
    exact hm this
theorem parse_two {s a b : List UInt8} (h : M.SplitAny s [62] = [a, b]) : M.ParseRule s = M.ruleOf (M.undot a) (M.undot b) s := by
  by_cases hm : (62 : UInt8) ∈ s
  · obtain ⟨a', b', rfl, ha⟩ := List.eq_append_cons_of_mem hm
    rw [split_at ha] at h
    injection h with h1 h2
    subst h1
    by_cases hb : (62 : UInt8) ∈ b'
    · obtain ⟨a2, b2, rfl, ha2⟩ := List.eq_append_cons_of_mem hb
      rw [split_at ha2] at h2
      injection h2 with h2 h3
      unfold M.SplitAny at h3
      simp at h3
    · rw [split_none hb] at h2
      injection h2 with h2
      subst h2
      unfold M.ParseRule
      rw [cut_at ha]
  · rw [split_none hm] at h
    simp at h
set_option maxRecDepth 100000 in
theorem undotted_c (l : List UInt8) (w : World) : Calls Tryd.prog 79 #[.string ⟨l.toArray⟩] w fun e w' => e = .returned (.string ⟨(M.undot l).toArray⟩) ∧ w = w' := by
  unfold M.undot
  by_cases h : l = [46]
  · subst h
    rw [if_pos rfl]
    go_enter Tryd.func79, Tryd.ntmps79
    go_wp2
    go_ret
    exact ⟨rfl, rfl⟩
  · rw [if_neg h]
    have h' : (l == [46]) = false := by simpa using h
    clear h
    go_enter Tryd.func79, Tryd.ntmps79
    go_wp2
    go_ret
    exact ⟨rfl, rfl⟩
theorem cut_c (l : List UInt8) (m : Int) (w : World) (hl : l.length ≤ 1048576) (hm : w.cell? ⟨2, 0, none⟩ = some (.int .i64 m)) : Calls Tryd.prog 78 #[.string ⟨l.toArray⟩, .string ⟨#[62]⟩] w fun e w' => e = .returned (.tuple #[.string ⟨(Lib.cut l [62]).1.toArray⟩, .string ⟨(Lib.cut l [62]).2.1.toArray⟩, .bool (Lib.cut l [62]).2.2]) ∧ Below w.heap.size w w' := by
  have h := Tryd.strings_Cut ⟨l.toArray⟩ ⟨#[62]⟩ m w (by simp [ByteArray.size]; omega) hm
  refine h.mono fun e w' ⟨he, k, hw⟩ => ⟨he, by rw [hw]; exact below_drewN (Below.refl _ _) k⟩

theorem frozenKeep' {w w' : World} {b o : Nat} {u : Value} {f : Bool} (hb : Below w.heap.size w w') (hc : w.cell? ⟨b, o, none⟩ = some u) (h : w.frozen? ⟨b, o, none⟩ = f) : w'.frozen? ⟨b, o, none⟩ = f :=
  ((bcell hb).2 _ _ (World.block_lt_of_cell? w _ hc)).trans h
set_option maxRecDepth 100000 in
set_option maxHeartbeats 4000000 in
theorem impl_ParseRule_c (m : Int) (l : List UInt8) (w : World) (hl : l.length ≤ 1048576) (hm : w.cell? ⟨2, 0, none⟩ = some (.int .i64 m)) :
    Calls Tryd.prog 55 #[.string ⟨l.toArray⟩] w fun e w' => e = .returned (.tuple #[.agg #[.string ⟨(M.ParseRule l).1.left.toArray⟩, .string ⟨(M.ParseRule l).1.right.toArray⟩], .bool (M.ParseRule l).2]) ∧ Below w.heap.size w w' := by
  have h1 := Lib.hid (fun W h => cut_c l m W hl h)
  have HM := Lib.hid (fun o => allocKeep1 hm o)
  have hlen : (Lib.cut l [62]).1.length ≤ l.length ∧ (Lib.cut l [62]).2.1.length ≤ l.length := by unfold Lib.cut; split <;> simp <;> omega
  unfold M.ParseRule
  generalize Lib.cut l [62] = z at *
  obtain ⟨p, q, zb⟩ := z
  simp only at h1 hlen ⊢
  obtain ⟨hpl, hql⟩ := hlen
  have h3 := Lib.hid (fun W => undotted_c p W)
  have h4 := Lib.hid (fun W => undotted_c q W)
  have hal := Nat.le_trans (undot_len p) hpl
  have hbl := Nat.le_trans (undot_len q) hql
  generalize M.undot p = a at *
  generalize M.undot q = b at *
  have h5 := Lib.hid (fun W => impl_WordOk_c 4 a W (by omega))
  have h6 := Lib.hid (fun W => impl_WordOk_c 4 b W (by omega))
  have h7 := Lib.hid (fun W => impl_FormatRule_c a b W (by omega) (by omega))
  unfold M.ruleOf
  generalize M.WordOk 4 a = x at *
  generalize M.WordOk 4 b = y at *
  generalize M.FormatRule ⟨a, b⟩ = f at *
  obtain ⟨res, hres⟩ : ∃ res, res = (if x = true ∧ y = true ∧ f = l then (⟨a, b⟩, true) else (⟨[], []⟩, false) : M.Rule × Bool) := ⟨_, rfl⟩
  rw [← hres]
  have HNO := Lib.hid (fun h => hres.trans (if_neg h))
  have HYES := Lib.hid (fun h => hres.trans (if_pos h))
  clear hres hm
  cases zb
  all_goals
    go_enter Tryd.func55, Tryd.ntmps55
    go_wp2_with fail
    refine (h1.out _ (HM.out _)).mono ?_
    rintro e w1 ⟨rfl, hb⟩
    have d0 : w1.cell? ⟨w.heap.size, 0, none⟩ = some (.string ⟨#[]⟩) := cellKeep hb (by simp [go_sem])
    have d1 : w1.cell? ⟨w.heap.size, 1, none⟩ = some (.string ⟨#[]⟩) := cellKeep hb (by simp [go_sem])
    have f0 : w1.frozen? ⟨w.heap.size, 0, none⟩ = false := ((bcell hb).2 _ _ (by simp)).trans (by simp [go_sem])
    have f1 : w1.frozen? ⟨w.heap.size, 1, none⟩ = false := ((bcell hb).2 _ _ (by simp)).trans (by simp [go_sem])
    have HB0 := Lib.hid (below_alloc1 hb)
    clear hb
    go_wp2_with fail
    refine (h3.out _).mono ?_
    rintro e v1 ⟨rfl, rfl⟩
    go_wp2_with fail
    refine (h4.out _).mono ?_
    rintro e v1 ⟨rfl, rfl⟩
    have HAL := Lib.hid (fun o => (Below.refl w1.heap.size w1).alloc (Nat.le_refl _) o)
    have HB := Lib.hid (HB0.out.trans ((HAL.out (.cells #[.string ⟨a.toArray⟩, .string ⟨b.toArray⟩] 66)).mono HB0.out.size))
    replace f0 := frozenKeep' (HAL.out (.cells #[.string ⟨a.toArray⟩, .string ⟨b.toArray⟩] 66)) d0 f0
    replace f1 := frozenKeep' (HAL.out (.cells #[.string ⟨a.toArray⟩, .string ⟨b.toArray⟩] 66)) d1 f1
    replace d0 := allocKeep1 d0 (.cells #[.string ⟨a.toArray⟩, .string ⟨b.toArray⟩] 66)
    replace d1 := allocKeep1 d1 (.cells #[.string ⟨a.toArray⟩, .string ⟨b.toArray⟩] 66)
    have x0 : (w1.alloc (.cells #[.string ⟨a.toArray⟩, .string ⟨b.toArray⟩] 66)).cell? ⟨w1.heap.size, 0, none⟩ = some (.string ⟨a.toArray⟩) := by simp [go_sem]
    have x1 : (w1.alloc (.cells #[.string ⟨a.toArray⟩, .string ⟨b.toArray⟩] 66)).cell? ⟨w1.heap.size, 1, none⟩ = some (.string ⟨b.toArray⟩) := by simp [go_sem]
    cases x
    case false =>
      have HE := Lib.hid (HNO.out (fun h => absurd h.1 (by simp)))
      go_wp2_with fail
      refine (h5.out _).mono ?_
      rintro e v1 ⟨rfl, rfl⟩
      go_wp2_with fail
      refine bodyPost_ret (v := .tuple #[.agg #[.string ⟨#[]⟩, .string ⟨#[]⟩], .bool false]) ?_ rfl ⟨by rw [HE.out], ?_⟩
      · simp [results, Tryd.results55, go_sem, cell_set_ne, cell_set_eq _ d0, cell_two' d1]
      · exact ((HB.out).setCell (by simp <;> omega) _).setCell (by simp <;> omega) _
    case true =>
    cases y
    case false =>
      have HE := Lib.hid (HNO.out (fun h => absurd h.2.1 (by simp)))
      go_wp2_with fail
      refine (h5.out _).mono ?_
      rintro e v1 ⟨rfl, rfl⟩
      go_wp2_with fail
      refine (h6.out _).mono ?_
      rintro e v1 ⟨rfl, rfl⟩
      go_wp2_with fail
      refine bodyPost_ret (v := .tuple #[.agg #[.string ⟨#[]⟩, .string ⟨#[]⟩], .bool false]) ?_ rfl ⟨by rw [HE.out], ?_⟩
      · simp [results, Tryd.results55, go_sem, cell_set_ne, cell_set_eq _ d0, cell_two' d1]
      · exact ((HB.out).setCell (by simp <;> omega) _).setCell (by simp <;> omega) _
    case true =>
    by_cases hf : f = l
    case neg =>
      have HE := Lib.hid (HNO.out (fun h => hf h.2.2))
      have hf' : (f == l) = false := by simpa using hf
      clear hf
      go_wp2_with fail
      refine (h5.out _).mono ?_
      rintro e v1 ⟨rfl, rfl⟩
      go_wp2_with fail
      refine (h6.out _).mono ?_
      rintro e v1 ⟨rfl, rfl⟩
      go_wp2_with fail
      refine (h7.out _).mono ?_
      rintro e v1 ⟨rfl, hb1⟩
      replace f0 := frozenKeep' hb1 d0 f0
      replace f1 := frozenKeep' hb1 d1 f1
      replace d0 := cellKeep hb1 d0
      replace d1 := cellKeep hb1 d1
      replace x0 := cellKeep hb1 x0
      replace x1 := cellKeep hb1 x1
      have HB1 := Lib.hid (HB.out.trans (hb1.mono HB.out.size))
      clear hb1
      go_wp2_with fail
      refine bodyPost_ret (v := .tuple #[.agg #[.string ⟨#[]⟩, .string ⟨#[]⟩], .bool false]) ?_ rfl ⟨by rw [HE.out], ?_⟩
      · simp [results, Tryd.results55, go_sem, cell_set_ne, cell_set_eq _ d0, cell_two' d1]
      · exact ((HB1.out).setCell (by simp <;> omega) _).setCell (by simp <;> omega) _
    case pos =>
      have HE := Lib.hid (HYES.out ⟨rfl, rfl, hf⟩)
      subst hf
      go_wp2_with fail
      refine (h5.out _).mono ?_
      rintro e v1 ⟨rfl, rfl⟩
      go_wp2_with fail
      refine (h6.out _).mono ?_
      rintro e v1 ⟨rfl, rfl⟩
      go_wp2_with fail
      refine (h7.out _).mono ?_
      rintro e v1 ⟨rfl, hb1⟩
      replace f0 := frozenKeep' hb1 d0 f0
      replace f1 := frozenKeep' hb1 d1 f1
      replace d0 := cellKeep hb1 d0
      replace d1 := cellKeep hb1 d1
      replace x0 := cellKeep hb1 x0
      replace x1 := cellKeep hb1 x1
      have HB1 := Lib.hid (HB.out.trans (hb1.mono HB.out.size))
      clear hb1
      go_wp2_with fail
      refine bodyPost_ret (v := .tuple #[.agg #[.string ⟨a.toArray⟩, .string ⟨b.toArray⟩], .bool true]) ?_ rfl ⟨by rw [HE.out], ?_⟩
      · simp [results, Tryd.results55, go_sem, cell_set_ne, cell_set_eq _ d0, cell_two' d1]
      · exact ((HB1.out).setCell (by simp <;> omega) _).setCell (by simp <;> omega) _

def M.undots (zs : List (List UInt8)) (k : Nat) : List (List UInt8) := (zs.take k).map M.undot ++ zs.drop k
theorem undots_len (zs : List (List UInt8)) (k : Nat) : (M.undots zs k).length = zs.length := by unfold M.undots; simp; omega
theorem undots_at {zs : List (List UInt8)} {k : Nat} (h : k < zs.length) : (M.undots zs k)[k]? = some zs[k] := by
  unfold M.undots
  rw [List.getElem?_append_right (by simp; omega)]
  simp [Nat.min_eq_left (Nat.le_of_lt h), h]
theorem undots_set {zs : List (List UInt8)} {k : Nat} (h : k < zs.length) : (M.undots zs k).set k (M.undot zs[k]) = M.undots zs (k + 1) := by
  unfold M.undots
  rw [List.drop_eq_getElem_cons h, set_here _ _ _ _ (by simp; omega), List.take_succ_eq_append_getElem h, List.map_append, List.append_assoc]
  rfl
theorem strs_set (ls : List (List UInt8)) (k : Nat) (v : List UInt8) : (strs ls).set k (.string ⟨v.toArray⟩) = strs (ls.set k v) := by simp [strs, List.map_set]
set_option maxRecDepth 100000 in
set_option maxHeartbeats 4000000 in
theorem spec_ParseRule_c (l : List UInt8) (w : World) (hl : l.length ≤ 1048576) :
    Calls Tryd.prog 54 #[.string ⟨l.toArray⟩] w fun e w' => e = .returned (.tuple #[.agg #[.string ⟨(M.ParseRule l).1.left.toArray⟩, .string ⟨(M.ParseRule l).1.right.toArray⟩], .bool (M.ParseRule l).2]) ∧ Below w.heap.size w w' := by
  have h1 := Lib.hid (fun W => spec_SplitAny_c l [62] W hl (by simp))
  have hzl := M.SplitAny_len l [62]
  have HPN := Lib.hid (fun h => parse_no (s := l) h)
  have HPT := Lib.hid (fun a b h => parse_two (s := l) (a := a) (b := b) h)
  have HSZ := Lib.hid (fun z (h : z ∈ M.SplitAny l [62]) => split_mem h)
  obtain ⟨res, hres⟩ : ∃ res, res = M.ParseRule l := ⟨_, rfl⟩
  rw [← hres] at HPN HPT ⊢
  generalize M.SplitAny l [62] = zs at *
  obtain ⟨n, hn⟩ : ∃ n, n = zs.length := ⟨_, rfl⟩
  have HN := Lib.hid hn
  rw [← hn] at h1 HPN hzl
  clear hres hn
  by_cases h2 : n = 2
  case neg =>
    have HE := Lib.hid (HPN.out h2)
    have h2' : ((n : Int) == 2) = false := by rw [beq_eq_false_iff_ne]; omega
    clear h2 HPT HPN HSZ
    go_enter Tryd.func54, Tryd.ntmps54
    go_wp2_with fail
    refine (h1.out _).mono ?_
    rintro e w1 ⟨A1, c1, rfl, hown, hb⟩
    have d0 : w1.cell? ⟨w.heap.size, 0, none⟩ = some (.string ⟨#[]⟩) := cellKeep hb (by simp [go_sem])
    have d1 : w1.cell? ⟨w.heap.size, 1, none⟩ = some (.string ⟨#[]⟩) := cellKeep hb (by simp [go_sem])
    have f0 : w1.frozen? ⟨w.heap.size, 0, none⟩ = false := ((bcell hb).2 _ _ (by simp)).trans (by simp [go_sem])
    have f1 : w1.frozen? ⟨w.heap.size, 1, none⟩ = false := ((bcell hb).2 _ _ (by simp)).trans (by simp [go_sem])
    have HB := Lib.hid (below_alloc1 hb)
    clear hb hown
    go_wp2_with fail
    refine bodyPost_ret (v := .tuple #[.agg #[.string ⟨#[]⟩, .string ⟨#[]⟩], .bool false]) ?_ rfl ⟨by rw [HE.out], ?_⟩
    · simp [results, Tryd.results54, go_sem, cell_set_ne, cell_set_eq _ d0, cell_two' d1]
    · exact ((HB.out).setCell (by simp <;> omega) _).setCell (by simp <;> omega) _
  case pos =>
  obtain ⟨p, q, hpq⟩ : ∃ p q, zs = [p, q] := by
    have h3 := HN.out
    match zs, h3 with
    | [p, q], _ => exact ⟨p, q, rfl⟩
    | [], h3 => simp at h3; omega
    | [_], h3 => simp at h3; omega
    | _ :: _ :: _ :: _, h3 => simp at h3; omega
  have HE0 := Lib.hid (HPT.out p q hpq)
  have hpl := HSZ.out p (by rw [hpq]; simp)
  have hql := HSZ.out q (by rw [hpq]; simp)
  have HPQ := Lib.hid hpq
  have HU := Lib.hid (show M.undots zs n = [M.undot p, M.undot q] by rw [h2, hpq]; rfl)
  have hal := Nat.le_trans (undot_len p) hpl
  have hbl := Nat.le_trans (undot_len q) hql
  clear hpq HPT HPN HSZ hzl
  go_enter Tryd.func54, Tryd.ntmps54
  have h2' : ((n : Int) == 2) = true := by rw [beq_iff_eq]; omega
  go_wp2_with fail
  refine (h1.out _).mono ?_
  rintro e w1 ⟨A1, c1, rfl, hown, hb⟩
  have D0 := Lib.hid (show w1.cell? ⟨w.heap.size, 0, none⟩ = some (.string ⟨#[]⟩) from cellKeep hb (by simp [go_sem]))
  have D1 := Lib.hid (show w1.cell? ⟨w.heap.size, 1, none⟩ = some (.string ⟨#[]⟩) from cellKeep hb (by simp [go_sem]))
  have F0 := Lib.hid (show w1.frozen? ⟨w.heap.size, 0, none⟩ = false from ((bcell hb).2 _ _ (by simp)).trans (by simp [go_sem]))
  have F1 := Lib.hid (show w1.frozen? ⟨w.heap.size, 1, none⟩ = false from ((bcell hb).2 _ _ (by simp)).trans (by simp [go_sem]))
  have HB0 := Lib.hid (below_alloc1 hb)
  have HS0 := Lib.hid (show w.heap.size + 1 ≤ w1.heap.size by have h := hb.size; (try simp at h); omega)
  have HO0 := Lib.hid ((Own.of_row hown).mono (base' := w.heap.size + 1) (by simp))
  clear hb hown
  go_wp2_with fail
  go_loopw [16] (fun z wr => ∃ k : Nat, k ≤ n ∧ z = .int .i64 k ∧ Own wr (w.heap.size + 1) 1 A1 n (strs (M.undots zs k)) ∧ (wr.cell? ⟨w.heap.size, 0, none⟩ = some (.string ⟨#[]⟩) ∧ wr.cell? ⟨w.heap.size, 1, none⟩ = some (.string ⟨#[]⟩) ∧ wr.frozen? ⟨w.heap.size, 0, none⟩ = false ∧ wr.frozen? ⟨w.heap.size, 1, none⟩ = false) ∧ Below w.heap.size w wr ∧ w.heap.size + 1 ≤ wr.heap.size) (fun z _ => n - (intOf z).toNat)
  case atStart => exact ⟨0, by omega, rfl, by have h := HO0.out; simpa [M.undots] using h, ⟨D0.out, D1.out, F0.out, F1.out⟩, HB0.out, HS0.out⟩
  case round =>
    obtain ⟨k, hk, rfl, hown, ⟨d0, d1, f0, f1⟩, hb, hsz⟩ := hrel
    have HB := Lib.hid hb
    by_cases hlt : k < n
    case pos =>
      obtain ⟨g, o, hA, hbg, hgl, hc, hf, hst⟩ := hown.cells (by omega)
      have hkz : k < zs.length := by have := HN.out; omega
      have hc1 := hc k _ (by rw [strs, List.getElem?_map, undots_at hkz]; rfl)
      have hf1 := hf k
      by_cases he : zs[k] = [46]
      case pos =>
        have HS := Lib.hid (show (strs (M.undots zs k)).set k (.string ⟨#[]⟩) = strs (M.undots zs (k + 1)) by
          rw [← undots_set hkz, he]; exact strs_set _ k [])
        have HO := Lib.hid (hst k (.string ⟨#[]⟩)).1
        have HD0 := Lib.hid d0
        have HD1 := Lib.hid d1
        have HF0 := Lib.hid f0
        have HF1 := Lib.hid f1
        have hgw : w.heap.size + 1 ≤ g := hbg
        rw [he] at hc1
        clear hc hf hst hown hb hgl d0 d1 f0 f1 he
        subst hA
        go_wp2_with fail
        go_roundw
        case rel => exact ⟨k + 1, by omega, by go_num, by rw [← HS.out]; exact HO.out, ⟨(cell_set_ne _ (by omega)).trans HD0.out, (cell_set_ne _ (by omega)).trans HD1.out, by simpa using HF0.out, by simpa using HF1.out⟩, HB.out.setCell (by simp; omega) _, by simp; omega⟩
        case measure => simp [intOf] <;> omega
      case neg =>
        have hu : M.undot zs[k] = zs[k] := if_neg he
        have HS := Lib.hid (show M.undots zs (k + 1) = M.undots zs k by
          rw [← undots_set hkz, hu]
          apply List.ext_getElem?
          intro j
          by_cases hj : j = k
          · subst hj
            rw [List.getElem?_set_self (by rw [undots_len]; exact hkz), undots_at hkz]
          · rw [List.getElem?_set_ne (by omega)])
        have he' : (zs[k] == [46]) = false := by simpa using he
        have HO := Lib.hid hown
        generalize zs[k] = e at *
        clear hc hf hst hown hb hgl he hu
        subst hA
        go_wp2_with fail
        go_roundw
        case rel => exact ⟨k + 1, by omega, by go_num, by rw [HS.out]; exact HO.out, ⟨d0, d1, f0, f1⟩, HB.out, hsz⟩
        case measure => simp [intOf] <;> omega
    case neg =>
      have hkn : k = n := by omega
      rw [hkn, HU.out] at hown
      obtain ⟨g, o, hA, hbg, hgl, hc, hf, hst⟩ := hown.cells (by omega)
      obtain ⟨a, ha⟩ : ∃ a, a = M.undot p := ⟨_, rfl⟩
      obtain ⟨b, hbb⟩ : ∃ b, b = M.undot q := ⟨_, rfl⟩
      rw [← ha, ← hbb] at hc HE0
      rw [← ha] at hal
      rw [← hbb] at hbl
      have c0 : wr.cell? ⟨g, o, none⟩ = some (.string ⟨a.toArray⟩) := by simpa using hc 0 _ rfl
      have c1' : wr.cell? ⟨g, o + 1, none⟩ = some (.string ⟨b.toArray⟩) := hc 1 _ rfl
      have h5 := Lib.hid (fun W => spec_WordOk_c 4 a W (by omega))
      have h6 := Lib.hid (fun W => spec_WordOk_c 4 b W (by omega))
      have h7 := Lib.hid (fun W => spec_FormatRule_c a b W (by omega) (by omega))
      unfold M.ruleOf at HE0
      generalize M.WordOk 4 a = x at *
      generalize M.WordOk 4 b = y at *
      generalize M.FormatRule ⟨a, b⟩ = f at *
      have HNO := Lib.hid (fun h => HE0.out.trans (if_neg h))
      have HYES := Lib.hid (fun h => HE0.out.trans (if_pos h))
      have hn2 : n = 2 := h2
      clear hc hf hst hown hb ha hbb HE0 HU
      subst hA
      subst hn2
      go_wp2_with fail
      go_region
      obtain ⟨v0, hv0⟩ : ∃ v0 : World, v0 = (wr.alloc (.cells #[.string ⟨a.toArray⟩, .string ⟨b.toArray⟩] 66)).drew := ⟨_, rfl⟩
      rw [← hv0]
      have HAL := (Below.refl wr.heap.size wr).alloc (Nat.le_refl _) (.cells #[.string ⟨a.toArray⟩, .string ⟨b.toArray⟩] 66)
      have x0 : v0.cell? ⟨wr.heap.size, 0, none⟩ = some (.string ⟨a.toArray⟩) := by rw [hv0]; simp [go_sem]
      have x1 : v0.cell? ⟨wr.heap.size, 1, none⟩ = some (.string ⟨b.toArray⟩) := by rw [hv0]; simp [go_sem]
      replace f0 : v0.frozen? ⟨w.heap.size, 0, none⟩ = false := by rw [hv0]; exact frozenKeep' HAL.drew d0 f0
      replace f1 : v0.frozen? ⟨w.heap.size, 1, none⟩ = false := by rw [hv0]; exact frozenKeep' HAL.drew d1 f1
      replace d0 : v0.cell? ⟨w.heap.size, 0, none⟩ = some (.string ⟨#[]⟩) := by rw [hv0]; exact cellKeep HAL.drew d0
      replace d1 : v0.cell? ⟨w.heap.size, 1, none⟩ = some (.string ⟨#[]⟩) := by rw [hv0]; exact cellKeep HAL.drew d1
      replace HB := Lib.hid (show Below w.heap.size w v0 by rw [hv0]; exact (HB.out.trans (HAL.mono HB.out.size)).drew)
      clear hv0 HAL c0 c1'
      cases x
      case false =>
        have HE := Lib.hid (HNO.out (fun h => absurd h.1 (by simp)))
        go_wp2_with fail
        refine (h5.out _).mono ?_
        rintro e v1 ⟨rfl, rfl⟩
        go_wp2_with fail
        refine bodyPost_ret (v := .tuple #[.agg #[.string ⟨#[]⟩, .string ⟨#[]⟩], .bool false]) ?_ rfl ⟨by rw [HE.out], ?_⟩
        · simp [results, Tryd.results54, go_sem, cell_set_ne, cell_set_eq _ d0, cell_two' d1]
        · exact ((HB.out).setCell (by simp <;> omega) _).setCell (by simp <;> omega) _
      case true =>
      cases y
      case false =>
        have HE := Lib.hid (HNO.out (fun h => absurd h.2.1 (by simp)))
        go_wp2_with fail
        refine (h5.out _).mono ?_
        rintro e v1 ⟨rfl, rfl⟩
        go_wp2_with fail
        refine (h6.out _).mono ?_
        rintro e v1 ⟨rfl, rfl⟩
        go_wp2_with fail
        refine bodyPost_ret (v := .tuple #[.agg #[.string ⟨#[]⟩, .string ⟨#[]⟩], .bool false]) ?_ rfl ⟨by rw [HE.out], ?_⟩
        · simp [results, Tryd.results54, go_sem, cell_set_ne, cell_set_eq _ d0, cell_two' d1]
        · exact ((HB.out).setCell (by simp <;> omega) _).setCell (by simp <;> omega) _
      case true =>
      by_cases hf : f = l
      case neg =>
        have HE := Lib.hid (HNO.out (fun h => hf h.2.2))
        have hf' : (f == l) = false := by simpa using hf
        clear hf
        go_wp2_with fail
        refine (h5.out _).mono ?_
        rintro e v1 ⟨rfl, rfl⟩
        go_wp2_with fail
        refine (h6.out _).mono ?_
        rintro e v1 ⟨rfl, rfl⟩
        go_wp2_with fail
        refine (h7.out _).mono ?_
        rintro e v1 ⟨rfl, hb1⟩
        replace f0 := frozenKeep' hb1 d0 f0
        replace f1 := frozenKeep' hb1 d1 f1
        replace d0 := cellKeep hb1 d0
        replace d1 := cellKeep hb1 d1
        replace x0 := cellKeep hb1 x0
        replace x1 := cellKeep hb1 x1
        have HB1 := Lib.hid (HB.out.trans (hb1.mono HB.out.size))
        clear hb1
        go_wp2_with fail
        refine bodyPost_ret (v := .tuple #[.agg #[.string ⟨#[]⟩, .string ⟨#[]⟩], .bool false]) ?_ rfl ⟨by rw [HE.out], ?_⟩
        · simp [results, Tryd.results54, go_sem, cell_set_ne, cell_set_eq _ d0, cell_two' d1]
        · exact ((HB1.out).setCell (by simp <;> omega) _).setCell (by simp <;> omega) _
      case pos =>
        have HE := Lib.hid (HYES.out ⟨rfl, rfl, hf⟩)
        subst hf
        go_wp2_with fail
        refine (h5.out _).mono ?_
        rintro e v1 ⟨rfl, rfl⟩
        go_wp2_with fail
        refine (h6.out _).mono ?_
        rintro e v1 ⟨rfl, rfl⟩
        go_wp2_with fail
        refine (h7.out _).mono ?_
        rintro e v1 ⟨rfl, hb1⟩
        replace f0 := frozenKeep' hb1 d0 f0
        replace f1 := frozenKeep' hb1 d1 f1
        replace d0 := cellKeep hb1 d0
        replace d1 := cellKeep hb1 d1
        replace x0 := cellKeep hb1 x0
        replace x1 := cellKeep hb1 x1
        have HB1 := Lib.hid (HB.out.trans (hb1.mono HB.out.size))
        clear hb1
        go_wp2_with fail
        refine bodyPost_ret (v := .tuple #[.agg #[.string ⟨a.toArray⟩, .string ⟨b.toArray⟩], .bool true]) ?_ rfl ⟨by rw [HE.out], ?_⟩
        · simp [results, Tryd.results54, go_sem, cell_set_ne, cell_set_eq _ d0, cell_two' d1]
        · exact ((HB1.out).setCell (by simp <;> omega) _).setCell (by simp <;> omega) _

end Go.Proofs.YtkdccehihpgcdaaDoor
