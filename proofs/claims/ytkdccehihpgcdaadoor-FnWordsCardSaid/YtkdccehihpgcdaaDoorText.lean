/-
  Contracts of MakeNum and MakeText, and the plain law: the parts of a text joined again are the text.
  Conditions: at most 2^20 bytes.
-/
import Derived.Test.YtkdccehihpgcdaaDoorMake
import Derived.Test.YtkdccehihpgcdaaDoorParse
import Derived.Test.YtkdccehihpgcdaaDoorJoin
namespace Go.Proofs.YtkdccehihpgcdaaDoor
open Go.RowKit
set_option linter.unusedVariables false
set_option linter.unusedSimpArgs false

/-- What SplitAny cuts at one byte, Join puts together again. -/
theorem join_split (c : UInt8) : ∀ (n : Nat) (s : List UInt8), s.length ≤ n → Lib.join (M.SplitAny s [c]) [c] = s
  | n, s, hn => by
    by_cases hc : c ∈ s
    · obtain ⟨a, b, rfl, ha⟩ := List.eq_append_cons_of_mem hc
      cases n with
      | zero => simp at hn
      | succ n =>
        have ih := join_split c n b (by simp at hn; omega)
        obtain ⟨y, r, hy⟩ : ∃ y r, M.SplitAny b [c] = y :: r := by
          cases hb : M.SplitAny b [c] with
          | nil => exact absurd (congrArg List.length hb) (by unfold M.SplitAny; simp)
          | cons y r => exact ⟨y, r, rfl⟩
        rw [split_at ha, Lib.join_cons, hy]
        rw [hy, Lib.join_cons] at ih
        simp only [Lib.joinTail, List.map_cons, List.flatten_cons] at ih ⊢
        rw [← ih]
        simp [List.append_assoc]
    · rw [split_none hc, Lib.join_one]
theorem split_lens (s : List UInt8) (c : UInt8) : Lib.lens (M.SplitAny s [c]) ≤ s.length := by
  have h := join_split c s.length s (Nat.le_refl _)
  have key : ∀ (ls : List (List UInt8)), Lib.lens ls ≤ (Lib.join ls [c]).length := by
    intro ls
    cases ls with
    | nil => simp [Lib.lens]
    | cons x r =>
      rw [Lib.join_cons]
      have e : Lib.lens (x :: r) = x.length + Lib.lens r := by simp [Lib.lens]
      have h2 : Lib.lens r ≤ (Lib.joinTail [c] r).length := by
        induction r with
        | nil => simp [Lib.lens]
        | cons y r ih =>
          have e2 : Lib.lens (y :: r) = y.length + Lib.lens r := by simp [Lib.lens]
          have e3 : Lib.joinTail [c] (y :: r) = [c] ++ y ++ Lib.joinTail [c] r := by simp [Lib.joinTail]
          have := ih (by simp [Lib.lens])
          rw [e2, e3, List.length_append, List.length_append]
          omega
      rw [e, List.length_append]
      omega
  have := key (M.SplitAny s [c])
  rw [h] at this
  exact this

set_option maxRecDepth 100000 in
set_option maxHeartbeats 2000000 in
theorem MakeNum_c (A : Option Addr) (n c : Nat) (bs : List UInt8) (p : Nat) (w : World) (hA : Rd w 1 A n (u8s bs)) (hn : n ≤ 1048576) (hp : p ≤ 1000) :
    Calls Tryd.prog 13 #[.slice A n c, .int .i64 p] w fun e w' => (∃ z : Int, e = .returned (.int .i64 z) ∧ 0 ≤ z ∧ z ≤ 65535) ∧ Below w.heap.size w w' := by
  have h1 := Lib.hid (l31New_c A n c bs p w hA hn hp)
  clear hA
  go_enter Tryd.func13, Tryd.ntmps13
  go_wp2_with fail
  refine h1.out.mono ?_
  rintro e w1 ⟨b, rfl, hbg, hc, hb⟩
  have H2 := Lib.hid (l01Byte_c b A n c bs w1 hc hn)
  have HB := Lib.hid hb
  clear hc hb
  go_wp2_with fail
  refine H2.out.mono ?_
  rintro e w2 ⟨⟨v, rfl, hv0, hv1⟩, hs⟩
  have H3 := Lib.hid (l01Byte_c b A n c bs w2 hs.1 hn)
  have HB2 := Lib.hid (hs.2.1 _ _ hbg HB.out)
  clear hs
  go_wp2_with fail
  refine H3.out.mono ?_
  rintro e w3 ⟨⟨u, rfl, hu0, hu1⟩, hs⟩
  have HB3 := Lib.hid (hs.2.1 _ _ hbg HB2.out)
  clear hs
  go_wp2_with fail
  go_ret
  exact ⟨⟨v * 256 + u, rfl, by omega, by omega⟩, HB3.out⟩
set_option maxRecDepth 100000 in
set_option maxHeartbeats 2000000 in
theorem l01Str_c (b : Nat) (A : Option Addr) (n c : Nat) (bs : List UInt8) (g d : Nat) (ls : List (List UInt8)) (w : World) (hc : CurOk w b A n c bs) (hn : n ≤ 1048576) (hl : 1 ≤ ls.length ∧ ls.length ≤ 256) (hR : Rd w 1 (some ⟨g, 0, none⟩) ls.length (strs ls)) (hg : g ≠ b) :
    Calls Tryd.prog 39 #[.pointer (some ⟨b, 0, none⟩), .slice (some ⟨g, 0, none⟩) ls.length d] w fun e w' => (∃ l ∈ ls, e = .returned (.string ⟨l.toArray⟩)) ∧ CurStep b A n c bs w w' := by
  have h1 := Lib.hid (l01Below_c b A n c bs (ls.length : Int) w hc hn (by omega) (by omega))
  have HR := Lib.hid hR
  have hgl := hR.lt (by decide) (by omega) rfl
  clear hc hR
  go_enter Tryd.func39, Tryd.ntmps39
  go_wp2_with fail
  refine h1.out.mono ?_
  rintro e w1 ⟨⟨v, rfl, hv0, hv1⟩, hs⟩
  obtain ⟨j, rfl⟩ := Int.eq_ofNat_of_zero_le hv0
  have hj : j < ls.length := by omega
  have HS := Lib.hid hs
  obtain ⟨b', o', e1, hz, hcell⟩ := (hs.2.2.rd HR.out (fun ad ha => by injection ha with ha; subst ha; exact ⟨hg, hgl⟩)).strAt (k := j) hj
  injection e1 with e1
  injection e1 with e1 e2
  subst e1
  subst e2
  simp only [Nat.zero_add] at hcell
  have HM := Lib.hid (List.getElem_mem hj)
  generalize ls[j] = l at *
  clear hs hv0 hv1
  go_wp2_with fail
  go_ret
  exact ⟨⟨l, HM.out, rfl⟩, HS.out⟩
set_option maxRecDepth 100000 in
set_option maxHeartbeats 2000000 in
theorem MakeText_c (A : Option Addr) (n c : Nat) (bs : List UInt8) (w : World) (hA : Rd w 1 A n (u8s bs)) (hn : n ≤ 1048576) :
    Calls Tryd.prog 14 #[.slice A n c] w fun e w' => (∃ m : List UInt8, e = .returned (.string ⟨m.toArray⟩) ∧ m.length ≤ 16) ∧ Below w.heap.size w w' := by
  have h1 := Lib.hid (l01New_c A n c bs w hA hn)
  clear hA
  go_enter Tryd.func14, Tryd.ntmps14
  go_wp2_with fail
  refine h1.out.mono ?_
  rintro e w1 ⟨b, rfl, hbg, hbl, hc, hb⟩
  have H2 := Lib.hid (l01Below_c b A n c bs 8 w1 hc hn (by omega) (by omega))
  have HB := Lib.hid hb
  clear hc hb
  go_wp2_with fail
  refine H2.out.mono ?_
  rintro e w2 ⟨⟨v, rfl, hv0, hv1⟩, hs⟩
  obtain ⟨N, rfl⟩ := Int.eq_ofNat_of_zero_le hv0
  have HS := Lib.hid hs
  have hbl2 : b < w2.heap.size := Nat.lt_of_lt_of_le hbl hs.2.2.1
  clear hs
  go_wp2_with fail
  go_loopw [4, 5] (fun s z wr => ∃ (j : Nat) (m : List UInt8), j ≤ N ∧ z = .int .i64 j ∧ s = .string ⟨m.toArray⟩ ∧ m.length + 2 * j ≤ 2 * N ∧ CurOk wr b A n c bs ∧ b < wr.heap.size ∧ Below w.heap.size w wr) (fun _ z _ => (intOf z).toNat)
  case atStart => exact ⟨N, [], by omega, rfl, rfl, by simp, HS.out.1, hbl2, HS.out.2.1 _ _ hbg HB.out⟩
  case round =>
    obtain ⟨j, m, hj, rfl, rfl, hml, hcw, hbw, hbl⟩ := hrel
    have HC := Lib.hid (hcw.below ((Below.refl wr.heap.size wr).alloc (Nat.le_refl _) (.cells #[.string ⟨#[97]⟩, .string ⟨#[98, 99]⟩, .string ⟨#[32]⟩, .string ⟨#[44]⟩, .string ⟨#[120, 49]⟩] 9)))
    have HBL := Lib.hid hbl
    clear hcw hbl
    by_cases hlt : 0 < j
    case neg =>
      go_wp2_with fail
      go_ret
      exact ⟨⟨m, rfl, by omega⟩, HBL.out⟩
    case pos =>
      have HR := Lib.hid (show Rd (wr.alloc (.cells #[.string ⟨#[97]⟩, .string ⟨#[98, 99]⟩, .string ⟨#[32]⟩, .string ⟨#[44]⟩, .string ⟨#[120, 49]⟩] 9)) 1 (some ⟨wr.heap.size, 0, none⟩) [[97], [98, 99], [32], [44], [120, 49]].length (strs [[97], [98, 99], [32], [44], [120, 49]]) from Rd.of_own (World.ownsRow_lit wr _ 5 (Nat.le_refl _) (by simp [maxLen]) (by simp)))
      have H3 := Lib.hid (l01Str_c b A n c bs wr.heap.size 5 [[97], [98, 99], [32], [44], [120, 49]] _ HC.out hn (by simp) HR.out (by omega))
      go_wp2_with fail
      refine H3.out.mono ?_
      rintro e w3 ⟨⟨l, hl, rfl⟩, hs⟩
      have hll : l.length ≤ 2 := by
        simp only [List.mem_cons, List.mem_nil_iff, or_false] at hl
        rcases hl with rfl | rfl | rfl | rfl | rfl <;> simp
      have HS3 := Lib.hid hs
      clear hs hl
      go_wp2_with fail
      go_roundw
      case rel => exact ⟨j - 1, m ++ l, by omega, by go_num, by simp, by simp; omega, HS3.out.1, by have := HS3.out.2.2.1; simp at this; omega, HS3.out.2.1 _ _ hbg (HBL.out.alloc HBL.out.size _)⟩
      case measure => simp [intOf] <;> omega
end Go.Proofs.YtkdccehihpgcdaaDoor
