/-
  Contracts of Join; the laws' helpers on slices of strings; openers.
  Conditions: at most 2^20 strings of together at most 2^20 bytes.
-/
import Derived.Test.YtkdccehihpgcdaaDoorEqC
import Derived.Test.YtkdccehihpgcdaaDoorPart
import Derived.Test.YtkdccehihpgcdaaDoorOpen2
import Derived.Test.YtkdccehihpgcdaaDoorToB
import Derived.Test.YtkdccehihpgcdaaDoorShelf
import Derived.Lib.Join
namespace Go.Proofs.YtkdccehihpgcdaaDoor
open Go.ChangeShapes Go.WideShapes Go.ChangeAt Go.RowKit Go.Joins Go.Deep
set_option linter.unusedVariables false

def str1 (z : List UInt8) : List Value := [.string ⟨z.toArray⟩]
theorem strs_flat : ∀ zs : List (List UInt8), zs.flatMap str1 = strs zs
  | [] => rfl
  | z :: zs => by rw [List.flatMap_cons, strs_flat zs]; rfl
theorem partS {rs : List (List UInt8)} {zs : List Value} {k : Nat} (hk : k < rs.length) (hz : zs.length = rs.length) : (part str1 rs zs 1 k).set k (.string ⟨rs[k].toArray⟩) = part str1 rs zs 1 (k + 1) := by
  have hl := part_len (f := str1) (s := 1) (fun _ => rfl) rs k
  rw [Nat.min_eq_left (by omega), Nat.mul_one] at hl
  unfold part
  rw [Nat.mul_one, List.drop_eq_getElem_cons (l := zs) (i := k) (by omega), set_here _ _ _ _ hl.symm, List.take_succ_eq_append_getElem hk, List.flatMap_append, Nat.mul_one]
  simp [str1]
theorem lens_le {ls : List (List UInt8)} {l : List UInt8} (h : l ∈ ls) : l.length ≤ Lib.lens ls := by
  induction ls with
  | nil => simp at h
  | cons x r ih =>
    have e : Lib.lens (x :: r) = x.length + Lib.lens r := by simp [Lib.lens]
    rcases List.mem_cons.1 h with h | h
    · subst h; omega
    · have := ih h; omega
theorem join_succ {ls : List (List UInt8)} {sep : List UInt8} {k : Nat} (h : k < ls.length) : Lib.join (ls.take (k + 1)) sep = (if 0 < k then Lib.join (ls.take k) sep ++ sep else Lib.join (ls.take k) sep) ++ ls[k] := by
  cases ls with
  | nil => simp at h
  | cons x r =>
    cases k with
    | zero => simp [Lib.join_one, Lib.join_nil]
    | succ k =>
      have hk : k < r.length := by simpa using h
      rw [if_pos (by omega), List.take_succ_cons, Lib.join_cons, List.take_succ_cons, Lib.join_cons, Lib.joinTail_take_succ sep r k r[k] (List.getElem?_eq_getElem hk)]
      simp [List.append_assoc]
theorem join_len {ls : List (List UInt8)} {sep : List UInt8} : ∀ k, k ≤ ls.length → (Lib.join (ls.take k) sep).length ≤ Lib.lens ls + k * sep.length
  | 0, _ => by simp [Lib.join_nil]
  | k + 1, h => by
    have ih := join_len (ls := ls) (sep := sep) k (by omega)
    have key : ∀ k, k ≤ ls.length → (Lib.join (ls.take k) sep).length ≤ Lib.lens (ls.take k) + k * sep.length := by
      intro k
      induction k with
      | zero => intro _; simp [Lib.join_nil]
      | succ k ihk =>
        intro hk
        have h1 := ihk (by omega)
        have h2 := Lib.lens_take_succ ls k ls[k] (List.getElem?_eq_getElem (by omega))
        rw [join_succ (by omega), h2, Nat.add_mul]
        split <;> simp only [List.length_append] <;> omega
    have h3 := key (k + 1) h
    have h4 := Lib.lens_take_le ls (k + 1)
    omega
section
variable {H : Type} {enc : TypeId × Value → H} {w : World} {b0 : Nat} {held : Bool} {spare : Nat → Bool} {v : Value} {d : DataW H} {p : List MemPlace}
theorem Tryd.cellsStr : Tryd.prog.cellsOf 9 = 1 := by kernel_rfl
set_option maxRecDepth 100000 in
theorem openStringSlice {n : Nat} {v : Value} {y : DataW H × List MemPlace} (h : DataW.trod enc Tryd.prog w 0 spare held n 31 [v] = some y) :
    ∃ (A : Option Addr) (c : Nat) (zs : List (List UInt8)), v = .slice A zs.length c ∧ zs.length ≤ 9223372036854775807 ∧ Rd w 1 A zs.length (strs zs) ∧ ∀ z ∈ zs, z.length ≤ 9223372036854775807 := by
  obtain ⟨A, c, zs, e, h1, h2, h3⟩ := openElems str1 (fun z => z.length ≤ 9223372036854775807) (fun _ => rfl) (by decide) Tryd.underlying31 Tryd.cellsStr (fun m cs y hl hy => by
    match cs, hl with
    | [c0], _ =>
      obtain ⟨k, rfl, hk⟩ := openOneString hy
      exact ⟨k, rfl, hk⟩) h
  exact ⟨A, c, zs, e, h1, by rwa [strs_flat] at h2, h3⟩
set_option maxRecDepth 100000 in
theorem openStrings (hv : Value.okWide Tryd.prog w .any b0 31 v) (h : DataW.Trod enc Tryd.prog w 0 spare held 31 v d p) :
    ∃ (A : Option Addr) (c : Nat) (ls : List (List UInt8)), v = .slice A ls.length c ∧ (ls.length ≤ 9223372036854775807 ∧ Rd w 1 A ls.length (strs ls) ∧ ∀ l ∈ ls, l.length ≤ 9223372036854775807) := by
  obtain ⟨a0, len, cap, rfl⟩ := okWide_slice Tryd.underlying31 hv
  obtain ⟨fuel, hf⟩ := h
  obtain ⟨A, c, xs, e, h1, h2, h3⟩ := openStringSlice (v := .slice a0 len cap) (by simpa [Value.cells] using hf)
  exact ⟨A, c, xs, e, h1, h2, h3⟩
end
theorem joinLib_c (b c : Nat) (ls : List (List UInt8)) (p : List UInt8) (w : World) (hA : Rd w 1 (some ⟨b, 0, none⟩) ls.length (strs ls)) (hc : ls.length ≤ c) (hl : ls.length ≤ 1048576) (ht : Lib.lens ls ≤ 1048576) (hp : p.length ≤ 1048576) :
    Calls Tryd.prog 40 #[.slice (some ⟨b, 0, none⟩) ls.length c, .string ⟨p.toArray⟩] w fun e w' => e = .returned (.string ⟨(Lib.join ls p).toArray⟩) ∧ Below w.heap.size w w' := by
  by_cases h0 : ls = []
  · subst h0
    exact (Tryd.strings_Join_none (some ⟨b, 0, none⟩) c ⟨p.toArray⟩ w).mono fun e w' ⟨he, hw⟩ => ⟨by rw [he]; simp [Lib.join_nil], by rw [hw]; exact Below.refl _ _⟩
  · have hpos : 0 < ls.length := List.length_pos_iff.2 h0
    have hmap : (ls.map fun l => (⟨l.toArray⟩ : ByteArray)).map (·.data.toList) = ls := by simp [Function.comp_def]
    have hjl := join_len (ls := ls) (sep := p) ls.length (Nat.le_refl _)
    rw [List.take_of_length_le (Nat.le_refl _)] at hjl
    have h3 : ls.length * p.length ≤ 1048576 * 1048576 := Nat.mul_le_mul hl hp
    have h := Tryd.strings_Join b 0 c (ls.map fun l => ⟨l.toArray⟩) ⟨p.toArray⟩ w (fun j x hx => by
      rw [List.getElem?_map] at hx
      obtain ⟨l, hl', rfl⟩ := Option.map_eq_some_iff.1 hx
      obtain ⟨b', o', e1, hcs⟩ := hA.2 hpos
      injection e1 with e1
      injection e1 with e1 e2
      subst e1
      subst e2
      exact hcs j _ (by simp [strs, hl'])) (hA.lt (by decide) hpos rfl) (by rw [List.length_map]; omega) (by rw [List.length_map]; exact hc) (by rw [hmap]; exact (show (Lib.join ls p).length ≤ 140737488355328 by omega))
    rw [hmap, List.length_map] at h
    exact h
set_option maxRecDepth 100000 in
set_option maxHeartbeats 1000000 in
theorem impl_Join_c (b c : Nat) (ls : List (List UInt8)) (p : List UInt8) (w : World) (hA : Rd w 1 (some ⟨b, 0, none⟩) ls.length (strs ls)) (hc : ls.length ≤ c) (hl : ls.length ≤ 1048576) (ht : Lib.lens ls ≤ 1048576) (hp : p.length ≤ 1048576) :
    Calls Tryd.prog 15 #[.slice (some ⟨b, 0, none⟩) ls.length c, .string ⟨p.toArray⟩] w fun e w' => e = .returned (.string ⟨(Lib.join ls p).toArray⟩) ∧ Below w.heap.size w w' := by
  have h1 := Lib.hid (joinLib_c b c ls p w hA hc hl ht hp)
  clear hA
  generalize Lib.join ls p = q at *
  go_enter Tryd.func15, Tryd.ntmps15
  go_wp2_with fail
  refine h1.out.mono ?_
  rintro e w1 ⟨rfl, hb⟩
  go_wp2_with fail
  go_ret
  exact ⟨rfl, hb⟩

end Go.Proofs.YtkdccehihpgcdaaDoor
