/-
  Contracts of the value of a word.
  Conditions: tables of at most 40 elements; words of at most 2^20 bytes.
-/
import Derived.Test.YtlohpphmamapeaaImg
import Derived.Test.YtlohpphmamapeaaWordOk
namespace Go.Proofs.Ytlohpphmamapeaa
open Go.RowKit
set_option linter.unusedVariables false

def M.valFrom (n : Nat) (xs ys : List Int) (x : Int) (l : List UInt8) : Int := l.foldl (fun x c => M.tI n xs x (M.tAt ys (c.toNat - 97))) x
theorem valFrom_drop {n : Nat} {xs ys : List Int} {x : Int} {l : List UInt8} {i : Nat} (h : i < l.length) : M.valFrom n xs ys x (l.drop i) = M.valFrom n xs ys (M.tI n xs x (M.tAt ys (l[i].toNat - 97))) (l.drop (i + 1)) := by
  unfold M.valFrom; rw [List.drop_eq_getElem_cons h, List.foldl_cons]
theorem letter_at {k : Int} {l : List UInt8} (h : M.hasLetters k l = true) {i : Nat} (hi : i < l.length) : (97 : Int) ≤ (l[i].toNat : Int) ∧ (l[i].toNat : Int) ≤ 97 + k - 1 := by
  have := List.all_eq_true.1 h l[i] (List.getElem_mem hi)
  simpa [M.isLetter] using this
theorem held3 {a w w1 : World} {b1 o1 b2 o2 b3 o3 : Nat} {u1 u2 u3 : Value} (h : w.cell? ⟨b1, o1, none⟩ = some u1 ∧ w.cell? ⟨b2, o2, none⟩ = some u2 ∧ w.cell? ⟨b3, o3, none⟩ = some u3 ∧ Below a.heap.size a w) (hb : Below w.heap.size w w1) :
    w1.cell? ⟨b1, o1, none⟩ = some u1 ∧ w1.cell? ⟨b2, o2, none⟩ = some u2 ∧ w1.cell? ⟨b3, o3, none⟩ = some u3 ∧ Below a.heap.size a w1 := ⟨cellKeep hb h.1, cellKeep hb h.2.1, cellKeep hb h.2.2.1, below_then h.2.2.2 hb⟩
theorem held3_below {a w : World} {p1 p2 p3 : Prop} (h : p1 ∧ p2 ∧ p3 ∧ Below a.heap.size a w) : Below a.heap.size a w := h.2.2.2
set_option maxRecDepth 100000 in
set_option maxHeartbeats 2000000 in
theorem value_c (n : Nat) (A : Option Addr) (c : Nat) (xs : List Int) (B : Option Addr) (d : Nat) (ys : List Int) (l : List UInt8) (w : World) (hA : Rd w 1 A xs.length (ints xs)) (hB : Rd w 1 B ys.length (ints ys)) (hn1 : 1 ≤ n) (hn : n ≤ 40) (hl : xs.length = n * n) (hin : M.InP n xs) (hy : ys.length ≤ 4) (hyin : M.InP n ys) (hlet : M.hasLetters ys.length l = true) (hll : l.length ≤ 1048576) :
    Calls Try.prog 137 #[.agg #[.int .i64 n, .slice A xs.length c], .slice B ys.length d, .string ⟨l.toArray⟩] w fun e w' => e = .returned (.int .i64 (M.valFrom n xs ys 0 l)) ∧ Below w.heap.size w w' := by
  have HA := Lib.hid hA
  have HB := Lib.hid hB
  have HT := Lib.hid (fun x y W h hx hy => times_c n A c xs x y W h hn hl hx hy)
  have HI := Lib.hid (fun x y hx hy => M.tI_in (n := n) (xs := xs) hin hl (x := x) (y := y) hx hy)
  have HY := Lib.hid (fun a (ha : a < ys.length) => show 0 ≤ M.tAt ys a ∧ M.tAt ys a < n by rw [M.tAt_eq ha]; have := hyin ys[a] (List.getElem_mem ha); omega)
  have HLE := Lib.hid (fun i (h : i < l.length) => letter_at hlet h)
  obtain ⟨q, hq⟩ : ∃ q, q = M.valFrom n xs ys 0 l := ⟨_, rfl⟩
  rw [← hq]
  have HQ := Lib.hid hq
  clear hA hB hl hin hyin hlet hq
  go_enter Try.func137, Try.ntmps137
  go_wp2
  go_loopw [7, 11] (fun v z wr => ∃ (i : Nat) (x : Int), i ≤ l.length ∧ z = .int .i64 i ∧ v = .int .i64 x ∧ 0 ≤ x ∧ x < n ∧ M.valFrom n xs ys x (l.drop i) = q ∧ wr.cell? ⟨w.heap.size, 0, none⟩ = some (.int .i64 n) ∧ wr.cell? ⟨w.heap.size, 1, none⟩ = some (.slice A xs.length c) ∧ Below w.heap.size w wr) (fun _ z _ => l.length - (intOf z).toNat)
  case atStart => exact ⟨0, 0, by omega, rfl, rfl, by omega, by omega, by rw [List.drop_zero, HQ.out], by simp [go_sem], by simp [go_sem], (Below.refl _ _).alloc (Nat.le_refl _) _⟩
  case round =>
    obtain ⟨i, x, hi, rfl, rfl, hx0, hxn, hf, c0, c1, hb⟩ := hrel
    have HW := Lib.hid hb
    have HF := Lib.hid hf
    clear hb hf
    by_cases hlt : i < l.length
    · have hlb := HLE.out i hlt
      have HF2 := Lib.hid ((valFrom_drop (n := n) (xs := xs) (ys := ys) (x := x) hlt).symm.trans HF.out)
      have hu := u8_lt l[i]
      obtain ⟨a, ha⟩ : ∃ a, a = l[i].toNat - 97 := ⟨_, rfl⟩
      have haa : (l[i].toNat : Int) - 97 = (a : Int) := by omega
      have hay : a < ys.length := by omega
      have haw : IntKind.u8.wrap (a : Int) = (a : Int) := by
        have h4 : a < 4 := by omega
        match a, h4 with
        | 0, _ => decide
        | 1, _ => decide
        | 2, _ => decide
        | 3, _ => decide
      have haw2 := wrap_nat (q := a) (by omega)
      have han : ¬ (a : Int) < 0 := by omega
      have hay' : (a : Int) < (ys.length : Int) := by omega
      rw [← ha] at HF2
      obtain ⟨b, o, rfl, hc⟩ := tAt_cell (HB.out.below HW.out) hay
      have hyr := HY.out a hay
      have hxr : 0 ≤ x ∧ x < n := ⟨hx0, hxn⟩
      have HN := Lib.hid (HI.out x (M.tAt ys a) hxr hyr)
      generalize M.tAt ys a = y at *
      clear ha
      go_wp2_with fail
      go_region_held3 (fun w' => w'.cell? ⟨w.heap.size, 0, none⟩ = some (.int .i64 n) ∧ w'.cell? ⟨w.heap.size, 1, none⟩ = some (.slice A xs.length c) ∧ w'.cell? ⟨b, o + a, none⟩ = some (.int .i64 y) ∧ Below wr.heap.size wr w') (first | exact ⟨c0, c1, hc, (Below.refl _ _).drew⟩ | assumption | exact held3 (by assumption) hbt) (first | (go_simp; go_at_call 129; refine (HT.out _ _ _ ((HA.out.below HW.out).below (held3_below (by assumption))) (by assumption) (by assumption)).mono ?_; rintro e wt ⟨rfl, hbt⟩))
      all_goals
        have hS : wt.cell? ⟨w.heap.size, 0, none⟩ = some (.int .i64 n) ∧ wt.cell? ⟨w.heap.size, 1, none⟩ = some (.slice A xs.length c) ∧ wt.cell? ⟨b, o + a, none⟩ = some (.int .i64 y) ∧ Below wr.heap.size wr wt := by assumption
        go_wp2
        go_roundw
        case rel => exact ⟨i + 1, _, by omega, by go_num, rfl, HN.out.1, HN.out.2, HF2.out, hS.1, hS.2.1, HW.out.trans (hS.2.2.2.mono HW.out.size)⟩
        case measure => simp [intOf]; omega
    · have e : x = q := by have := HF.out; rw [List.drop_eq_nil_of_le (by omega)] at this; exact this
      go_wp2
      go_ret
      exact ⟨ret_int (by first | exact e | rfl), HW.out⟩
set_option maxRecDepth 100000 in
set_option maxHeartbeats 2000000 in
theorem l11Value_c (n : Nat) (A : Option Addr) (c : Nat) (xs : List Int) (B : Option Addr) (d : Nat) (ys : List Int) (l : List UInt8) (w : World) (hA : Rd w 1 A xs.length (ints xs)) (hB : Rd w 1 B ys.length (ints ys)) (hn1 : 1 ≤ n) (hn : n ≤ 40) (hl : xs.length = n * n) (hin : M.InP n xs) (hy : ys.length ≤ 4) (hyin : M.InP n ys) (hlet : M.hasLetters ys.length l = true) (hll : l.length ≤ 1048576) :
    Calls Try.prog 134 #[.agg #[.int .i64 n, .slice A xs.length c], .slice B ys.length d, .string ⟨l.toArray⟩] w fun e w' => e = .returned (.int .i64 (M.valFrom n xs ys 0 l)) ∧ Below w.heap.size w w' := by
  have HA := Lib.hid hA
  have HB := Lib.hid hB
  have HT := Lib.hid (fun x y W h hx hy => l08Times_c n A c xs x y W h hn hl hx hy)
  have HI := Lib.hid (fun x y hx hy => M.tI_in (n := n) (xs := xs) hin hl (x := x) (y := y) hx hy)
  have HY := Lib.hid (fun a (ha : a < ys.length) => show 0 ≤ M.tAt ys a ∧ M.tAt ys a < n by rw [M.tAt_eq ha]; have := hyin ys[a] (List.getElem_mem ha); omega)
  have HLE := Lib.hid (fun i (h : i < l.length) => letter_at hlet h)
  obtain ⟨q, hq⟩ : ∃ q, q = M.valFrom n xs ys 0 l := ⟨_, rfl⟩
  rw [← hq]
  have HQ := Lib.hid hq
  clear hA hB hl hin hyin hlet hq
  go_enter Try.func134, Try.ntmps134
  go_wp2
  go_loopw [7, 8] (fun v z wr => ∃ (i : Nat) (x : Int), i ≤ l.length ∧ z = .int .i64 i ∧ v = .int .i64 x ∧ 0 ≤ x ∧ x < n ∧ M.valFrom n xs ys x (l.drop i) = q ∧ wr.cell? ⟨w.heap.size, 0, none⟩ = some (.int .i64 n) ∧ wr.cell? ⟨w.heap.size, 1, none⟩ = some (.slice A xs.length c) ∧ Below w.heap.size w wr) (fun _ z _ => l.length - (intOf z).toNat)
  case atStart => exact ⟨0, 0, by omega, rfl, rfl, by omega, by omega, by rw [List.drop_zero, HQ.out], by simp [go_sem], by simp [go_sem], (Below.refl _ _).alloc (Nat.le_refl _) _⟩
  case round =>
    obtain ⟨i, x, hi, rfl, rfl, hx0, hxn, hf, c0, c1, hb⟩ := hrel
    have HW := Lib.hid hb
    have HF := Lib.hid hf
    clear hb hf
    by_cases hlt : i < l.length
    · have hlb := HLE.out i hlt
      have HF2 := Lib.hid ((valFrom_drop (n := n) (xs := xs) (ys := ys) (x := x) hlt).symm.trans HF.out)
      have hu := u8_lt l[i]
      obtain ⟨a, ha⟩ : ∃ a, a = l[i].toNat - 97 := ⟨_, rfl⟩
      have haa : (l[i].toNat : Int) - 97 = (a : Int) := by omega
      have hay : a < ys.length := by omega
      have haw : IntKind.u8.wrap (a : Int) = (a : Int) := by
        have h4 : a < 4 := by omega
        match a, h4 with
        | 0, _ => decide
        | 1, _ => decide
        | 2, _ => decide
        | 3, _ => decide
      have haw2 := wrap_nat (q := a) (by omega)
      have han : ¬ (a : Int) < 0 := by omega
      have hay' : (a : Int) < (ys.length : Int) := by omega
      rw [← ha] at HF2
      obtain ⟨b, o, rfl, hc⟩ := tAt_cell (HB.out.below HW.out) hay
      have hyr := HY.out a hay
      have hxr : 0 ≤ x ∧ x < n := ⟨hx0, hxn⟩
      have HN := Lib.hid (HI.out x (M.tAt ys a) hxr hyr)
      generalize M.tAt ys a = y at *
      clear ha
      go_wp2_with fail
      go_region_held3 (fun w' => w'.cell? ⟨w.heap.size, 0, none⟩ = some (.int .i64 n) ∧ w'.cell? ⟨w.heap.size, 1, none⟩ = some (.slice A xs.length c) ∧ w'.cell? ⟨b, o + a, none⟩ = some (.int .i64 y) ∧ Below wr.heap.size wr w') (first | exact ⟨c0, c1, hc, (Below.refl _ _).drew⟩ | assumption | exact held3 (by assumption) hbt) (first | (go_simp; go_at_call 126; refine (HT.out _ _ _ ((HA.out.below HW.out).below (held3_below (by assumption))) (by assumption) (by assumption)).mono ?_; rintro e wt ⟨rfl, hbt⟩))
      all_goals
        have hS : wt.cell? ⟨w.heap.size, 0, none⟩ = some (.int .i64 n) ∧ wt.cell? ⟨w.heap.size, 1, none⟩ = some (.slice A xs.length c) ∧ wt.cell? ⟨b, o + a, none⟩ = some (.int .i64 y) ∧ Below wr.heap.size wr wt := by assumption
        go_wp2
        go_roundw
        case rel => exact ⟨i + 1, _, by omega, by go_num, rfl, HN.out.1, HN.out.2, HF2.out, hS.1, hS.2.1, HW.out.trans (hS.2.2.2.mono HW.out.size)⟩
        case measure => simp [intOf]; omega
    · have e : x = q := by have := HF.out; rw [List.drop_eq_nil_of_le (by omega)] at this; exact this
      go_wp2
      go_ret
      exact ⟨ret_int (by first | exact e | rfl), HW.out⟩

end Go.Proofs.Ytlohpphmamapeaa
