/-
  What the reference's cursor gives: some byte; a number below a bound; a word of some letters.
  Conditions: a code of at most 2^20 bytes.
-/
import Derived.Test.YtkdccehihpgcdaaDoorEqC
import Derived.Test.YtkdccehihpgcdaaDoorToB
import Derived.Test.YtkdccehihpgcdaaDoorMarkC
import Derived.BigQuiet
import Derived.IntWalk
namespace Go.Proofs.YtkdccehihpgcdaaDoor
open Go.RowKit
set_option linter.unusedVariables false
set_option linter.unusedSimpArgs false

def u8s (l : List UInt8) : List Value := l.map fun x => .int .u8 (x.toNat : Int)
theorem u8s_len (l : List UInt8) : (u8s l).length = l.length := by simp [u8s]
theorem u8s_at {l : List UInt8} {k : Nat} (h : k < l.length) : (u8s l)[k]? = some (.int .u8 (l[k].toNat : Int)) := by simp [u8s, h]
theorem and255 (x : Int) : 0 ≤ bits .and .i64 x 255 ∧ bits .and .i64 x 255 ≤ 255 := by
  obtain ⟨n, hn, hb⟩ : ∃ n : Nat, bits .and .i64 x 255 = IntKind.i64.wrap (n : Int) ∧ n ≤ 255 := by
    refine ⟨(BitVec.ofInt 64 x &&& BitVec.ofInt 64 255).toNat, rfl, ?_⟩
    rw [BitVec.toNat_and]
    exact Nat.and_le_right
  rw [hn, Go.IntWalk.i64_in _ (by omega)]
  omega
/-- A cursor at block b over a code that lies in another block. -/
structure CurOk (w : World) (b : Nat) (A : Option Addr) (n c : Nat) (bs : List UInt8) : Prop where
  c0 : w.cell? ⟨b, 0, none⟩ = some (.slice A n c)
  c1 : ∃ i : Nat, w.cell? ⟨b, 1, none⟩ = some (.int .i64 i) ∧ i ≤ n
  c2 : ∃ h : Int, w.cell? ⟨b, 2, none⟩ = some (.int .i64 h)
  f1 : w.frozen? ⟨b, 1, none⟩ = false
  f2 : w.frozen? ⟨b, 2, none⟩ = false
  rd : Rd w 1 A n (u8s bs)
  off : ∀ ad, A = some ad → 0 < n → ad.block ≠ b
theorem Rd.setOff {w : World} {A : Option Addr} {n b o : Nat} {xs : List Value} {u : Value} (h : Rd w 1 A n xs) (hb : ∀ ad, A = some ad → 0 < n → ad.block ≠ b) : Rd (w.setCell ⟨b, o, none⟩ u) 1 A n xs :=
  ⟨h.1, fun hn => by
    obtain ⟨g, q, e, hc⟩ := h.2 hn
    exact ⟨g, q, e, fun j v hv => by rw [cell_set_ne _ (Or.inl (fun e2 => hb _ e hn e2.symm))]; exact hc j v hv⟩⟩
/-- Every block that was there but b stands as it stood. -/
def Off (b : Nat) (w w' : World) : Prop := w.heap.size ≤ w'.heap.size ∧ ∀ g, g < w.heap.size → g ≠ b → w'.heap[g]? = w.heap[g]?
theorem Off.refl (b : Nat) (w : World) : Off b w w := ⟨Nat.le_refl _, fun _ _ _ => rfl⟩
theorem Off.set {b o : Nat} {w w' : World} (h : Off b w w') (u : Value) : Off b w (w'.setCell ⟨b, o, none⟩ u) := ⟨by simpa using h.1, fun g hg hne => by rw [heap_setCell_other w' ⟨b, o, none⟩ g u (fun e => hne (by simpa using e))]; exact h.2 g hg hne⟩
theorem Off.below {b : Nat} {w w1 w2 : World} (h : Off b w w1) (hb : Below w1.heap.size w1 w2) : Off b w w2 := ⟨Nat.le_trans h.1 hb.size, fun g hg hne => by rw [hb.block g (Nat.lt_of_lt_of_le hg h.1)]; exact h.2 g hg hne⟩
theorem Off.trans {b : Nat} {w w1 w2 : World} (h : Off b w w1) (h' : Off b w1 w2) : Off b w w2 := ⟨Nat.le_trans h.1 h'.1, fun g hg hne => by rw [h'.2 g (Nat.lt_of_lt_of_le hg h.1) hne]; exact h.2 g hg hne⟩
theorem Off.rd {b s n : Nat} {w w' : World} {A : Option Addr} {xs : List Value} (h : Off b w w') (hr : Rd w s A n xs) (hA : ∀ ad, A = some ad → ad.block ≠ b ∧ ad.block < w.heap.size) : Rd w' s A n xs :=
  ⟨hr.1, fun hn => by
    obtain ⟨g, o, e, hc⟩ := hr.2 hn
    obtain ⟨h1, h2⟩ := hA _ e
    exact ⟨g, o, e, fun j u hu => (World.cell?_of_block (h.2 g h2 h1)).trans (hc j u hu)⟩⟩
/-- What a step of the cursor leaves: the cursor, all that lay below its block, and every other block. -/
def CurStep (b : Nat) (A : Option Addr) (n c : Nat) (bs : List UInt8) (w w' : World) : Prop := CurOk w' b A n c bs ∧ (∀ B w0, B ≤ b → Below B w0 w → Below B w0 w') ∧ Off b w w'
theorem CurStep.trans {b : Nat} {A : Option Addr} {n c : Nat} {bs : List UInt8} {w w1 w2 : World} (h : CurStep b A n c bs w w1) (h' : CurStep b A n c bs w1 w2) : CurStep b A n c bs w w2 := ⟨h'.1, fun B w0 hB hb => h'.2.1 B w0 hB (h.2.1 B w0 hB hb), h.2.2.trans h'.2.2⟩
theorem CurOk.below {w w' : World} {b : Nat} {A : Option Addr} {n c : Nat} {bs : List UInt8} (h : CurOk w b A n c bs) (hb : Below w.heap.size w w') : CurOk w' b A n c bs := by
  obtain ⟨i, h1, hi⟩ := h.c1
  obtain ⟨z, h2⟩ := h.c2
  exact ⟨cellKeep hb h.c0, ⟨i, cellKeep hb h1, hi⟩, ⟨z, cellKeep hb h2⟩, ((bcell hb).2 _ _ (World.block_lt_of_cell? w _ h1)).trans h.f1, ((bcell hb).2 _ _ (World.block_lt_of_cell? w _ h1)).trans h.f2, h.rd.below hb, h.off⟩
theorem CurOk.drewN {w : World} {b : Nat} {A : Option Addr} {n c : Nat} {bs : List UInt8} (h : CurOk w b A n c bs) (k : Nat) : CurOk (w.drewN k) b A n c bs := h.below (below_drewN (Below.refl _ _) k)
theorem CurOk.set2 {w : World} {b : Nat} {A : Option Addr} {n c : Nat} {bs : List UInt8} (h : CurOk w b A n c bs) (z : Int) : CurOk (w.setCell ⟨b, 2, none⟩ (.int .i64 z)) b A n c bs := by
  obtain ⟨i, h1, hi⟩ := h.c1
  obtain ⟨y, h2⟩ := h.c2
  exact ⟨(cell_set_ne _ (by omega)).trans h.c0, ⟨i, (cell_set_ne _ (by omega)).trans h1, hi⟩, ⟨z, cell_set_eq _ h2⟩, by simpa using h.f1, by simpa using h.f2, h.rd.setOff h.off, h.off⟩
theorem CurOk.set1 {w : World} {b : Nat} {A : Option Addr} {n c : Nat} {bs : List UInt8} (h : CurOk w b A n c bs) {z : Nat} (hz : z ≤ n) : CurOk (w.setCell ⟨b, 1, none⟩ (.int .i64 (z : Int))) b A n c bs := by
  obtain ⟨i, h1, hi⟩ := h.c1
  obtain ⟨y, h2⟩ := h.c2
  exact ⟨(cell_set_ne _ (by omega)).trans h.c0, ⟨z, cell_set_eq _ h1, hz⟩, ⟨y, (cell_set_ne _ (by omega)).trans h2⟩, by simpa using h.f1, by simpa using h.f2, h.rd.setOff h.off, h.off⟩
set_option maxRecDepth 100000 in
set_option maxHeartbeats 4000000 in
theorem l01Byte_c (b : Nat) (A : Option Addr) (n c : Nat) (bs : List UInt8) (w : World) (hc : CurOk w b A n c bs) (hn : n ≤ 1048576) :
    Calls Tryd.prog 36 #[.pointer (some ⟨b, 0, none⟩)] w fun e w' => (∃ v : Int, e = .returned (.int .i64 v) ∧ 0 ≤ v ∧ v ≤ 255) ∧ CurStep b A n c bs w w' := by
  obtain ⟨i, h1, hi⟩ := hc.c1
  obtain ⟨h, h2⟩ := hc.c2
  have h0 := hc.c0
  have f1 := hc.f1
  have f2 := hc.f2
  have HC := Lib.hid hc
  have e0 : ∀ u, (w.setCell ⟨b, 2, none⟩ u).cell? ⟨b, 0, none⟩ = some (.slice A n c) := fun u => by rw [cell_set_ne _ (by omega)]; exact h0
  have e1 : ∀ u, (w.setCell ⟨b, 2, none⟩ u).cell? ⟨b, 1, none⟩ = some (.int .i64 i) := fun u => by rw [cell_set_ne _ (by omega)]; exact h1
  have e2 : ∀ u, (w.setCell ⟨b, 2, none⟩ u).cell? ⟨b, 2, none⟩ = some u := fun u => cell_set_eq u h2
  by_cases hlt : i < n
  case neg =>
    have hd : decide ((i : Int) < (n : Int)) = false := decide_eq_false (by omega)
    have hin : ¬ ((i : Int) < (n : Int)) := by omega
    clear hc hlt
    go_enter Tryd.func36, Tryd.ntmps36
    go_wp2_with fail
    go_quiet (fail)
    go_wp2_with fail
    go_quiet (fail)
    go_wp2_with fail
    go_ret
    refine ⟨⟨_, rfl, (and255 _).1, (and255 _).2⟩, ?_, fun B w0 hB hb => ?_, ?_⟩
    · repeat (first | exact (HC.out.set2 _) | refine CurOk.drewN ?_ _ | refine CurOk.below ?_ (Below.refl _ _).drew)
    · repeat (first | exact hb | refine Below.setCell ?_ hB _ | refine below_drewN ?_ _ | refine Below.drew ?_)
    · repeat (first | exact Off.refl _ _ | refine Off.set ?_ _ | refine Off.below ?_ (below_drewN (Below.refl _ _) _) | refine Off.below ?_ (Below.refl _ _).drew)
  case pos =>
    obtain ⟨g, o, rfl, hcs⟩ := hc.rd.2 (by omega)
    have hne := hc.off _ rfl (by omega)
    have hbl : i < bs.length := by have h := hc.rd.1; rw [u8s_len] at h; omega
    have hx := hcs i _ (u8s_at hbl)
    have e3 : ∀ u, (w.setCell ⟨b, 2, none⟩ u).cell? ⟨g, o + i, none⟩ = some (.int .u8 (bs[i].toNat : Int)) := fun u => by rw [cell_set_ne _ (Or.inl (fun e => hne e.symm))]; exact hx
    have hxb : (bs[i].toNat : Int) < 256 := by have := UInt8.toNat_lt bs[i]; omega
    generalize bs[i].toNat = xb at *
    have hd : decide ((i : Int) < (n : Int)) = true := decide_eq_true (by omega)
    have hin : (i : Int) < (n : Int) := by omega
    clear hc hcs hbl
    go_enter Tryd.func36, Tryd.ntmps36
    go_wp2_with fail
    go_quiet (fail)
    go_wp2_with fail
    go_quiet (fail)
    go_wp2_with fail
    go_quiet (fail)
    go_wp2_with fail
    go_ret
    refine ⟨⟨_, rfl, (and255 _).1, (and255 _).2⟩, ?_, fun B w0 hB hb => ?_, ?_⟩
    · have hs1 : ((i : Int) + 1) = ((i + 1 : Nat) : Int) := by omega
      rw [hs1]
      refine CurOk.set1 ?_ (by omega)
      repeat (first | exact (HC.out.set2 _) | refine CurOk.drewN ?_ _ | refine CurOk.below ?_ (Below.refl _ _).drew)
    · repeat (first | exact hb | refine Below.setCell ?_ hB _ | refine below_drewN ?_ _ | refine Below.drew ?_)
    · repeat (first | exact Off.refl _ _ | refine Off.set ?_ _ | refine Off.below ?_ (below_drewN (Below.refl _ _) _) | refine Off.below ?_ (Below.refl _ _).drew)

set_option maxRecDepth 100000 in
set_option maxHeartbeats 2000000 in
theorem l01Below_c (b : Nat) (A : Option Addr) (n c : Nat) (bs : List UInt8) (k : Int) (w : World) (hc : CurOk w b A n c bs) (hn : n ≤ 1048576) (hk1 : 1 ≤ k) (hk2 : k ≤ 256) :
    Calls Tryd.prog 38 #[.pointer (some ⟨b, 0, none⟩), .int .i64 k] w fun e w' => (∃ v : Int, e = .returned (.int .i64 v) ∧ 0 ≤ v ∧ v < k) ∧ CurStep b A n c bs w w' := by
  have h1 := Lib.hid (l01Byte_c b A n c bs w hc hn)
  clear hc
  go_enter Tryd.func38, Tryd.ntmps38
  go_wp2_with fail
  refine h1.out.mono ?_
  rintro e w1 ⟨⟨v, rfl, hv0, hv1⟩, hs⟩
  have HS := Lib.hid hs
  clear hs
  go_wp2_with fail
  go_ret
  refine ⟨⟨v % k, ret_int ?_, Int.emod_nonneg _ (by omega), Int.emod_lt_of_pos _ (by omega)⟩, HS.out⟩
  first | rfl | exact Int.tmod_eq_emod_of_nonneg hv0 | simp [Int.tmod_eq_emod_of_nonneg hv0]
set_option maxRecDepth 100000 in
set_option maxHeartbeats 2000000 in
theorem l01New_c (A : Option Addr) (n c : Nat) (bs : List UInt8) (w : World) (hA : Rd w 1 A n (u8s bs)) (hn : n ≤ 1048576) :
    Calls Tryd.prog 37 #[.slice A n c] w fun e w' => ∃ b, e = .returned (.pointer (some ⟨b, 0, none⟩)) ∧ w.heap.size ≤ b ∧ b < w'.heap.size ∧ CurOk w' b A n c bs ∧ Below w.heap.size w w' := by
  have HA := Lib.hid hA
  have HOFF := Lib.hid (fun ad (h : A = some ad) (h0 : 0 < n) => hA.lt (by decide) h0 h)
  clear hA
  go_enter Tryd.func37, Tryd.ntmps37
  go_wp2
  go_loopw [3, 4] (fun hv z wr => ∃ (i : Nat) (h : Int), i ≤ n ∧ z = .int .i64 i ∧ hv = .int .i64 h ∧ Below w.heap.size w wr) (fun _ z _ => n - (intOf z).toNat)
  case atStart => exact ⟨0, _, by omega, rfl, rfl, Below.refl _ _⟩
  case round =>
    obtain ⟨i, h, hi, rfl, rfl, hb⟩ := hrel
    have HB := Lib.hid hb
    by_cases hlt : i < n
    case neg =>
      have hin : ¬ ((i : Int) < (n : Int)) := by omega
      clear hb hlt
      go_wp2
      go_ret
      refine ⟨wr.heap.size, rfl, HB.out.size, by simp, ⟨by simp [go_sem], ⟨0, by simp [go_sem], by omega⟩, ⟨h, by simp [go_sem]⟩, by simp [go_sem], by simp [go_sem], (HA.out.below HB.out).below ((Below.refl _ _).alloc (Nat.le_refl _) _), fun ad he h0 e => ?_⟩, HB.out.alloc HB.out.size _⟩
      have h1 := HOFF.out ad he h0
      have h2 := HB.out.size
      omega
    case pos =>
    by_cases h4 : i < 4000
    case neg =>
      have h4' : ¬ ((i : Int) < 4000) := by omega
      clear hb h4
      go_wp2
      go_ret
      refine ⟨wr.heap.size, rfl, HB.out.size, by simp, ⟨by simp [go_sem], ⟨0, by simp [go_sem], by omega⟩, ⟨h, by simp [go_sem]⟩, by simp [go_sem], by simp [go_sem], (HA.out.below HB.out).below ((Below.refl _ _).alloc (Nat.le_refl _) _), fun ad he h0 e => ?_⟩, HB.out.alloc HB.out.size _⟩
      have h1 := HOFF.out ad he h0
      have h2 := HB.out.size
      omega
    case pos =>
      obtain ⟨g, o, rfl, hcs⟩ := (HA.out.below HB.out).2 (by omega)
      have hbl : i < bs.length := by have h := HA.out.1; rw [u8s_len] at h; omega
      have hx := hcs i _ (u8s_at hbl)
      have hxb : (bs[i].toNat : Int) < 256 := by have := UInt8.toNat_lt bs[i]; omega
      generalize bs[i].toNat = xb at *
      clear hb hcs hbl
      go_wp2
      go_roundw
      case rel => exact ⟨i + 1, _, by omega, by go_num, rfl, HB.out⟩
      case measure => simp [intOf] <;> omega
set_option maxRecDepth 100000 in
set_option maxHeartbeats 2000000 in
theorem l31New_c (A : Option Addr) (n c : Nat) (bs : List UInt8) (k : Nat) (w : World) (hA : Rd w 1 A n (u8s bs)) (hn : n ≤ 1048576) (hk : k ≤ 1000) :
    Calls Tryd.prog 35 #[.slice A n c, .int .i64 k] w fun e w' => ∃ b, e = .returned (.pointer (some ⟨b, 0, none⟩)) ∧ w.heap.size ≤ b ∧ CurOk w' b A n c bs ∧ Below w.heap.size w w' := by
  have h1 := Lib.hid (l01New_c A n c bs w hA hn)
  clear hA
  go_enter Tryd.func35, Tryd.ntmps35
  go_wp2_with fail
  refine h1.out.mono ?_
  rintro e w1 ⟨b, rfl, hbg, _, hc, hb⟩
  have HC := Lib.hid hc
  have HB := Lib.hid hb
  clear hc hb
  go_wp2_with fail
  go_loopw [6] (fun z wr => ∃ i : Nat, i ≤ k ∧ z = .int .i64 i ∧ CurOk wr b A n c bs ∧ Below w.heap.size w wr) (fun z _ => k - (intOf z).toNat)
  case atStart => exact ⟨0, by omega, rfl, HC.out, HB.out⟩
  case round =>
    obtain ⟨i, hi, rfl, hc, hb⟩ := hrel
    have H2 := Lib.hid (l01Byte_c b A n c bs wr hc hn)
    have HC2 := Lib.hid hc
    have HB2 := Lib.hid hb
    clear hc hb
    by_cases hlt : i < k
    case pos =>
      go_wp2_with fail
      refine H2.out.mono ?_
      rintro e w2 ⟨⟨v, rfl, _, _⟩, hs⟩
      have HS := Lib.hid hs
      clear hs
      go_wp2_with fail
      go_roundw
      case rel => exact ⟨i + 1, by omega, by go_num, HS.out.1, HS.out.2.1 _ _ hbg HB2.out⟩
      case measure => simp [intOf] <;> omega
    case neg =>
      go_wp2
      go_ret
      exact ⟨b, rfl, hbg, HC2.out, HB2.out⟩

end Go.Proofs.YtkdccehihpgcdaaDoor
