/-
  Contracts of Join; the laws' helpers on slices of strings; openers.
  Conditions: at most 2^20 strings of together at most 2^20 bytes.
-/
import Derived.Test.YtkbogjoodamcfaaEqC
import Derived.Test.YtkbogjoodamcfaaPart
import Derived.Test.YtkbogjoodamcfaaOpen2
import Derived.Test.YtkbogjoodamcfaaToB
import Derived.Test.YtkbogjoodamcfaaShelf
import Derived.Lib.Join
namespace Go.Proofs.Ytkbogjoodamcfaa
open Go.ChangeShapes Go.WideShapes Go.ChangeAt Go.RowKit Go.Joins Go.Deep
set_option linter.unusedVariables false

def str1 (z : List UInt8) : List Value := [.string ⟨z.toArray⟩]
theorem strs_flat : ∀ zs : List (List UInt8), zs.flatMap str1 = strs zs
  | [] => rfl
  | z :: zs => by rw [List.flatMap_cons, strs_flat zs]; rfl
theorem partS {rs : List (List UInt8)} {zs : List Value} {k : Nat} (hk : k < rs.length) (hz : zs.length = rs.length) : (part str1 rs zs 1 k).set k (.string ⟨rs[k].toArray⟩) = part str1 rs zs 1 (k + 1) := by
  have hl := part_len (f := str1) (s := 1) (fun _ => rfl) rs k
  rw [Nat.min_eq_left (by omega), Nat.mul_one] at hl
  unfold part
  rw [Nat.mul_one, List.drop_eq_getElem_cons (l := zs) (i := k) (by omega), set_here _ _ _ _ hl.symm, List.take_succ_eq_append_getElem hk, List.flatMap_append, Nat.mul_one]
  simp [str1]
theorem lens_le {ls : List (List UInt8)} {l : List UInt8} (h : l ∈ ls) : l.length ≤ Lib.lens ls := by
  induction ls with
  | nil => simp at h
  | cons x r ih =>
    have e : Lib.lens (x :: r) = x.length + Lib.lens r := by simp [Lib.lens]
    rcases List.mem_cons.1 h with h | h
    · subst h; omega
    · have := ih h; omega
theorem join_succ {ls : List (List UInt8)} {sep : List UInt8} {k : Nat} (h : k < ls.length) : Lib.join (ls.take (k + 1)) sep = (if 0 < k then Lib.join (ls.take k) sep ++ sep else Lib.join (ls.take k) sep) ++ ls[k] := by
  cases ls with
  | nil => simp at h
  | cons x r =>
    cases k with
    | zero => simp [Lib.join_one, Lib.join_nil]
    | succ k =>
      have hk : k < r.length := by simpa using h
      rw [if_pos (by omega), List.take_succ_cons, Lib.join_cons, List.take_succ_cons, Lib.join_cons, Lib.joinTail_take_succ sep r k r[k] (List.getElem?_eq_getElem hk)]
      simp [List.append_assoc]
theorem join_len {ls : List (List UInt8)} {sep : List UInt8} : ∀ k, k ≤ ls.length → (Lib.join (ls.take k) sep).length ≤ Lib.lens ls + k * sep.length
  | 0, _ => by simp [Lib.join_nil]
  | k + 1, h => by
    have ih := join_len (ls := ls) (sep := sep) k (by omega)
    have key : ∀ k, k ≤ ls.length → (Lib.join (ls.take k) sep).length ≤ Lib.lens (ls.take k) + k * sep.length := by
      intro k
      induction k with
      | zero => intro _; simp [Lib.join_nil]
      | succ k ihk =>
        intro hk
        have h1 := ihk (by omega)
        have h2 := Lib.lens_take_succ ls k ls[k] (List.getElem?_eq_getElem (by omega))
        rw [join_succ (by omega), h2, Nat.add_mul]
        split <;> simp only [List.length_append] <;> omega
    have h3 := key (k + 1) h
    have h4 := Lib.lens_take_le ls (k + 1)
    omega
set_option maxRecDepth 100000 in
set_option maxHeartbeats 2000000 in
theorem szStringS_c (A : Option Addr) (c : Nat) (ls : List (List UInt8)) (n : Int) (w : World) (hA : Rd w 1 A ls.length (strs ls)) (hl : ls.length ≤ 9223372036854775807) (hs : ∀ l ∈ ls, l.length ≤ 9223372036854775807) (hn : n ≤ 1048576) (hn0 : 0 ≤ n) :
    Calls Try.prog 6 #[.slice A ls.length c, .int .i64 n] w fun e w' => e = .returned (.int .i64 (if n - ls.length - (Lib.lens ls : Nat) < 0 then -1 else n - ls.length - (Lib.lens ls : Nat))) ∧ Below w.heap.size w w' := by
  by_cases h0 : n - ls.length < 0
  · rw [if_pos (by omega)]
    clear hA hs
    go_enter Try.func6, Try.ntmps6
    go_wp2
    go_ret
    exact ⟨rfl, Below.refl _ _⟩
  have HA := Lib.hid hA
  have HS := Lib.hid hs
  obtain ⟨m, hm⟩ : ∃ m, m = ls.length := ⟨_, rfl⟩
  have HM := Lib.hid hm
  rw [← hm] at HA h0 ⊢
  have hmb : m ≤ 1048576 := by omega
  obtain ⟨r, hr⟩ : ∃ r, r = n - m - (Lib.lens ls : Nat) := ⟨_, rfl⟩
  have HR := Lib.hid hr
  rw [← hr]
  obtain ⟨q, hq⟩ : ∃ q, q = if r < 0 then -1 else r := ⟨_, rfl⟩
  rw [← hq]
  have HNEG := Lib.hid (fun (h : r < 0) => hq.trans (if_pos h))
  have HPOS := Lib.hid (fun (h : ¬ r < 0) => hq.trans (if_neg h))
  clear hA hs hm hl hr hq
  go_enter Try.func6, Try.ntmps6
  go_wp2
  go_loopw [1, 5] (fun qv i wr => ∃ k : Nat, k ≤ m ∧ i = .int .i64 k ∧ (∃ z : Int, qv = .int .i64 z ∧ z = n - m - (Lib.lens (ls.take k) : Nat) ∧ 0 ≤ z ∧ z ≤ 1048576) ∧ Below w.heap.size w wr) (fun _ i _ => m - (intOf i).toNat)
  case atStart => exact ⟨0, by omega, rfl, ⟨_, rfl, by simp [Lib.lens], by omega, by omega⟩, Below.refl _ _⟩
  case round =>
    obtain ⟨k, hk, rfl, ⟨z, rfl, hz, hz0, hz1⟩, hb⟩ := hrel
    have HB := Lib.hid hb
    have HZ := Lib.hid hz
    clear hb hz
    by_cases hlt : k < m
    · obtain ⟨b, o, rfl, hq, hc⟩ := (HA.out.below HB.out).strAt hlt
      have hls := HS.out ls[k] (List.getElem_mem hq)
      have HL := Lib.hid (Lib.lens_take_succ ls k ls[k] (List.getElem?_eq_getElem hq))
      have HL2 := Lib.hid (Lib.lens_take_le ls (k + 1))
      generalize ls[k] = l at *
      by_cases hneg : z - l.length < 0
      · have HN := Lib.hid (show r < 0 by have h1 := HR.out; have h2 := HZ.out; have h3 := HL.out; have h4 := HL2.out; omega)
        go_wp2
        go_ret
        exact ⟨by rw [HNEG.out HN.out]; rfl, HB.out⟩
      · go_wp2
        go_roundw
        case rel => exact ⟨k + 1, by omega, by go_num, ⟨_, rfl, by have h2 := HZ.out; have h3 := HL.out; omega, by omega, by omega⟩, HB.out⟩
        case measure => simp [intOf] <;> omega
    · obtain rfl : k = m := by omega
      have HE := Lib.hid (show z = r by have h1 := HR.out; have h2 := HZ.out; have h3 := HM.out; rw [List.take_of_length_le (by omega)] at h2; omega)
      go_wp2
      go_ret
      exact ⟨by rw [HPOS.out (by have := HE.out; omega), HE.out]; rfl, HB.out⟩
set_option maxRecDepth 100000 in
set_option maxHeartbeats 1000000 in
theorem toStringS_s (A : Option Addr) (c : Nat) (rs : List (List UInt8)) (w : World) (hA : Rd w 1 A rs.length (strs rs)) (hl : rs.length ≤ 1048576) :
    Calls Try.prog 8 #[.slice A rs.length c] w fun e w' => e = .returned (.slice (some ⟨w.heap.size, 0, none⟩) rs.length rs.length) ∧ Own w' w.heap.size 1 (some ⟨w.heap.size, 0, none⟩) rs.length (strs rs) ∧ Below w.heap.size w w' := by
  have HA := Lib.hid hA
  obtain ⟨n, hn⟩ : ∃ n, n = rs.length := ⟨_, rfl⟩
  have hnb : n ≤ 1048576 := by omega
  have HN := Lib.hid hn
  rw [← hn]
  clear hA hl hn
  go_enter Try.func8, Try.ntmps8
  go_wp2_with (at_make; refine make_law rfl _ rfl slString rfl (by omega) ?_; intro zs w' hzl hown hb')
  obtain ⟨g, hg⟩ : ∃ g, g = w.heap.size := ⟨_, rfl⟩
  rw [← hg] at hown ⊢
  have HO := Lib.hid hown
  have HB := Lib.hid hb'
  have HL := Lib.hid hzl
  have HG := Lib.hid hg
  clear hown hb' hzl hg
  go_loopw [4] (fun i wr => ∃ k : Nat, k ≤ n ∧ i = .int .i64 k ∧ Own wr g 1 (some ⟨g, 0, none⟩) n (part str1 rs zs 1 k) ∧ Below w.heap.size w wr) (fun i _ => n - (intOf i).toNat)
  case atStart => exact ⟨0, by omega, rfl, by rw [part_zero]; exact HO.out, HB.out⟩
  case round =>
    obtain ⟨k, hk, rfl, hown, hb⟩ := hrel
    by_cases hlt : k < n
    · obtain ⟨b, o, rfl, hz, hc⟩ := (HA.out.below hb).strAt (k := k) (by have := HN.out; omega)
      have HP := Lib.hid (partS (zs := zs) hz (by have h1 := HL.out; have h2 := HN.out; omega))
      obtain ⟨hgb, hcs, hfs, hset⟩ := hown.at0 (by omega)
      have hlm : k < (part str1 rs zs 1 k).length := by have := hown.len; omega
      have hv := hcs k _ (List.getElem?_eq_getElem hlm)
      have hf := hfs k
      have HS := Lib.hid (hset k (.string ⟨rs[k].toArray⟩))
      have HT := Lib.hid hb
      have HGG := Lib.hid hgb
      generalize (part str1 rs zs 1 k)[k] = v at hv
      rw [HP.out] at HS
      clear hcs hfs hset hown hb hgb HP
      generalize rs[k] = x at *
      go_wp2_with fail
      go_roundw
      case rel => exact ⟨k + 1, by omega, by go_num, HS.out, by have hgs := HG.out; have hts := HT.out; repeat (first | exact hts | refine Below.setCell ?_ (by simp; omega) _)⟩
      case measure => simp [intOf] <;> omega
    · obtain rfl : k = n := by omega
      have HO := Lib.hid hown
      have HB := Lib.hid hb
      clear hown hb
      go_wp2
      go_ret
      have h1 := HO.out
      have h2 := HN.out
      subst h2
      rw [part_all (by simpa using HL.out), strs_flat] at h1
      have h3 := HG.out
      subst h3
      exact ⟨rfl, h1, HB.out⟩
section
variable {H : Type} {enc : TypeId × Value → H} {w : World} {b0 : Nat} {held : Bool} {spare : Nat → Bool} {v : Value} {d : DataW H} {p : List MemPlace}
theorem Try.cellsStr : Try.prog.cellsOf 9 = 1 := by kernel_rfl
set_option maxRecDepth 100000 in
theorem openStringSlice {n : Nat} {v : Value} {y : DataW H × List MemPlace} (h : DataW.trod enc Try.prog w 0 spare held n 22 [v] = some y) :
    ∃ (A : Option Addr) (c : Nat) (zs : List (List UInt8)), v = .slice A zs.length c ∧ zs.length ≤ 9223372036854775807 ∧ Rd w 1 A zs.length (strs zs) ∧ ∀ z ∈ zs, z.length ≤ 9223372036854775807 := by
  obtain ⟨A, c, zs, e, h1, h2, h3⟩ := openElems str1 (fun z => z.length ≤ 9223372036854775807) (fun _ => rfl) (by decide) Try.underlying22 Try.cellsStr (fun m cs y hl hy => by
    match cs, hl with
    | [c0], _ =>
      obtain ⟨k, rfl, hk⟩ := openOneString hy
      exact ⟨k, rfl, hk⟩) h
  exact ⟨A, c, zs, e, h1, by rwa [strs_flat] at h2, h3⟩
set_option maxRecDepth 100000 in
theorem openStrings (hv : Value.okWide Try.prog w .any b0 22 v) (h : DataW.Trod enc Try.prog w 0 spare held 22 v d p) :
    ∃ (A : Option Addr) (c : Nat) (ls : List (List UInt8)), v = .slice A ls.length c ∧ (ls.length ≤ 9223372036854775807 ∧ Rd w 1 A ls.length (strs ls) ∧ ∀ l ∈ ls, l.length ≤ 9223372036854775807) := by
  obtain ⟨a0, len, cap, rfl⟩ := okWide_slice Try.underlying22 hv
  obtain ⟨fuel, hf⟩ := h
  obtain ⟨A, c, xs, e, h1, h2, h3⟩ := openStringSlice (v := .slice a0 len cap) (by simpa [Value.cells] using hf)
  exact ⟨A, c, xs, e, h1, h2, h3⟩
end
set_option maxRecDepth 100000 in
set_option maxHeartbeats 2000000 in
theorem spec_Join_c (A : Option Addr) (c : Nat) (ls : List (List UInt8)) (p : List UInt8) (w : World) (hA : Rd w 1 A ls.length (strs ls)) (hl : ls.length ≤ 1048576) (ht : Lib.lens ls ≤ 1048576) (hp : p.length ≤ 1048576) :
    Calls Try.prog 7 #[.slice A ls.length c, .string ⟨p.toArray⟩] w fun e w' => e = .returned (.string ⟨(Lib.join ls p).toArray⟩) ∧ Below w.heap.size w w' := by
  have HA := Lib.hid hA
  have HLE := Lib.hid (fun k hk => join_len (ls := ls) (sep := p) k hk)
  have HIN := Lib.hid (fun l (h : l ∈ ls) => Nat.le_trans (lens_le h) ht)
  obtain ⟨q, hq⟩ : ∃ q, q = Lib.join ls p := ⟨_, rfl⟩
  rw [← hq]
  have HQ := Lib.hid hq
  obtain ⟨n, hn⟩ : ∃ n, n = ls.length := ⟨_, rfl⟩
  have HN := Lib.hid hn
  have hnb : n ≤ 1048576 := by omega
  rw [← hn] at HA ⊢
  have HT := Lib.hid ht
  clear hA hq hn hl ht
  go_enter Try.func7, Try.ntmps7
  go_wp2
  go_loopw [5, 10] (fun s z wr => ∃ (k : Nat) (m : List UInt8), k ≤ n ∧ z = .int .i64 k ∧ s = .string ⟨m.toArray⟩ ∧ m = Lib.join (ls.take k) p ∧ Below w.heap.size w wr) (fun _ z _ => n - (intOf z).toNat)
  case atStart => exact ⟨0, [], by omega, rfl, rfl, by simp [Lib.join_nil], Below.refl _ _⟩
  case round =>
    obtain ⟨k, m, hk, rfl, rfl, hm, hb⟩ := hrel
    have HB := Lib.hid hb
    have HM := Lib.hid hm
    have hml : m.length ≤ 1048576 + 1048576 * 1048576 := by
      have h1 := HLE.out k (by have := HN.out; omega)
      rw [← hm] at h1
      have h2 := HT.out
      have h3 : k * p.length ≤ 1048576 * 1048576 := Nat.mul_le_mul (by omega) hp
      omega
    clear hb hm
    by_cases hlt : k < n
    · obtain ⟨b, o, rfl, hz, hc⟩ := (HA.out.below HB.out).strAt hlt
      have HJ := Lib.hid (join_succ (ls := ls) (sep := p) (k := k) hz)
      have hxl := HIN.out ls[k] (List.getElem_mem hz)
      generalize ls[k] = x at *
      by_cases h0 : 0 < k
      · have HJ2 := Lib.hid (show (m ++ p) ++ x = Lib.join (ls.take (k + 1)) p by rw [HJ.out, if_pos h0, HM.out])
        have h0' : (0 : Int) < (k : Int) := by omega
        go_wp2
        go_roundw
        case rel => exact ⟨k + 1, (m ++ p) ++ x, by omega, by go_num, by simp, HJ2.out, HB.out⟩
        case measure => simp [intOf] <;> omega
      · have HJ2 := Lib.hid (show m ++ x = Lib.join (ls.take (k + 1)) p by rw [HJ.out, if_neg h0, HM.out])
        have h0' : ¬ (0 : Int) < (k : Int) := by omega
        go_wp2
        go_roundw
        case rel => exact ⟨k + 1, m ++ x, by omega, by go_num, by simp, HJ2.out, HB.out⟩
        case measure => simp [intOf] <;> omega
    · have HE := Lib.hid (show m = q by rw [HM.out, HQ.out, List.take_of_length_le (by have := HN.out; omega)])
      go_wp2
      go_ret
      exact ⟨by rw [← HE.out]; rfl, HB.out⟩
theorem joinLib_c (b c : Nat) (ls : List (List UInt8)) (p : List UInt8) (w : World) (hA : Rd w 1 (some ⟨b, 0, none⟩) ls.length (strs ls)) (hc : ls.length ≤ c) (hl : ls.length ≤ 1048576) (ht : Lib.lens ls ≤ 1048576) (hp : p.length ≤ 1048576) :
    Calls Try.prog 18 #[.slice (some ⟨b, 0, none⟩) ls.length c, .string ⟨p.toArray⟩] w fun e w' => e = .returned (.string ⟨(Lib.join ls p).toArray⟩) ∧ Below w.heap.size w w' := by
  by_cases h0 : ls = []
  · subst h0
    exact (Try.strings_Join_none (some ⟨b, 0, none⟩) c ⟨p.toArray⟩ w).mono fun e w' ⟨he, hw⟩ => ⟨by rw [he]; simp [Lib.join_nil], by rw [hw]; exact Below.refl _ _⟩
  · have hpos : 0 < ls.length := List.length_pos_iff.2 h0
    have hmap : (ls.map fun l => (⟨l.toArray⟩ : ByteArray)).map (·.data.toList) = ls := by simp [Function.comp_def]
    have hjl := join_len (ls := ls) (sep := p) ls.length (Nat.le_refl _)
    rw [List.take_of_length_le (Nat.le_refl _)] at hjl
    have h3 : ls.length * p.length ≤ 1048576 * 1048576 := Nat.mul_le_mul hl hp
    have h := Try.strings_Join b 0 c (ls.map fun l => ⟨l.toArray⟩) ⟨p.toArray⟩ w (fun j x hx => by
      rw [List.getElem?_map] at hx
      obtain ⟨l, hl', rfl⟩ := Option.map_eq_some_iff.1 hx
      obtain ⟨b', o', e1, hcs⟩ := hA.2 hpos
      injection e1 with e1
      injection e1 with e1 e2
      subst e1
      subst e2
      exact hcs j _ (by simp [strs, hl'])) (hA.lt (by decide) hpos rfl) (by rw [List.length_map]; omega) (by rw [List.length_map]; exact hc) (by rw [hmap]; exact (show (Lib.join ls p).length ≤ 140737488355328 by omega))
    rw [hmap, List.length_map] at h
    exact h
set_option maxRecDepth 100000 in
set_option maxHeartbeats 1000000 in
theorem impl_Join_c (b c : Nat) (ls : List (List UInt8)) (p : List UInt8) (w : World) (hA : Rd w 1 (some ⟨b, 0, none⟩) ls.length (strs ls)) (hc : ls.length ≤ c) (hl : ls.length ≤ 1048576) (ht : Lib.lens ls ≤ 1048576) (hp : p.length ≤ 1048576) :
    Calls Try.prog 9 #[.slice (some ⟨b, 0, none⟩) ls.length c, .string ⟨p.toArray⟩] w fun e w' => e = .returned (.string ⟨(Lib.join ls p).toArray⟩) ∧ Below w.heap.size w w' := by
  have h1 := Lib.hid (joinLib_c b c ls p w hA hc hl ht hp)
  clear hA
  generalize Lib.join ls p = q at *
  go_enter Try.func9, Try.ntmps9
  go_wp2_with fail
  refine h1.out.mono ?_
  rintro e w1 ⟨rfl, hb⟩
  go_wp2_with fail
  go_ret
  exact ⟨rfl, hb⟩

end Go.Proofs.Ytkbogjoodamcfaa
