/-
  What a marking of one slice leaves of the others: blocks that lie apart.
  Conditions: none; this text names no law.
-/
import Derived.Test.YtlohpphmamapeaaOwn
import Derived.Test.YtlohpphmamapeaaEqC
namespace Go.Proofs.Ytlohpphmamapeaa
open Go.RowKit
set_option linter.unusedVariables false

theorem cellGrown {w w' : World} {row : Option Nat} {b o : Nat} {u : Value} (hg : w.grownBy w' row) (h : w.cell? ⟨b, o, none⟩ = some u) (hne : some b ≠ row) : w'.cell? ⟨b, o, none⟩ = some u :=
  (World.cell?_of_block (a := ⟨b, o, none⟩) (hg.block b (World.block_lt_of_cell? w _ h) hne)).trans h
/-- Where the block of a slice lies. -/
def BlkIn (A : Option Addr) (n lo hi : Nat) : Prop := ∀ g, blk A n = some g → lo ≤ g ∧ g < hi
theorem Own.blkIn {w : World} {base size n : Nat} {A : Option Addr} {xs : List Value} (h : Own w base size A n xs) : BlkIn A n base w.heap.size := h.lt
theorem Rd.blkIn {w : World} {size n : Nat} {A : Option Addr} {xs : List Value} (h : Rd w size A n xs) (hs : 0 < size) : BlkIn A n 0 w.heap.size := fun g hg => by
  obtain ⟨hn, ad, rfl, rfl⟩ := blk_some hg
  exact ⟨Nat.zero_le _, h.lt hs hn rfl⟩
theorem blk_ne {A A' : Option Addr} {n n' lo hi lo' hi' : Nat} (h : BlkIn A n lo hi) (h' : BlkIn A' n' lo' hi') (hd : hi ≤ lo' ∨ hi' ≤ lo) : ∀ g, blk A n = some g → some g ≠ blk A' n' := fun g hg e => by
  have h1 := h g hg
  have h2 := h' g e.symm
  omega
theorem blk_off {A : Option Addr} {n lo hi b : Nat} (h : BlkIn A n lo hi) (hd : b < lo ∨ hi ≤ b) : some b ≠ blk A n := fun e => by
  have := h b e.symm
  omega
theorem Rd.grown' {w w' : World} {size n : Nat} {A : Option Addr} {xs : List Value} {row : Option Nat} (h : Rd w size A n xs) (hg : w.grownBy w' row) (hne : ∀ g, blk A n = some g → some g ≠ row) : Rd w' size A n xs :=
  h.grown hg fun hn ad ha => hne ad.block (by unfold blk; rw [if_neg (by omega), ha]; rfl)
theorem below_grown {B : Nat} {w0 w w' : World} {A : Option Addr} {n lo hi : Nat} (ht : Below B w0 w) (hB : B ≤ w.heap.size) (hg : w.grownBy w' (blk A n)) (hi' : BlkIn A n lo hi) (hl : B ≤ lo) : Below B w0 w' :=
  ht.grown hg hB (fun k hk => Nat.le_trans hl (hi' k hk).1)
set_option maxRecDepth 100000 in
set_option maxHeartbeats 1000000 in
theorem markTable_c (k : Int) (A : Option Addr) (n c base : Nat) (cs : List Value) (q : Int) (w : World) (hA : Own w base 1 A n cs) (hn : n ≤ 1099511627776) (hq0 : 0 ≤ q) (hq : q ≤ 1099511627776) :
    Calls Try.prog 28 #[.agg #[.int .i64 k, .slice A n c], .int .i64 q] w fun e w' => e = .returned (.int .i64 (q + n)) ∧ Own w' base 1 A n (ints (marked q n)) ∧ w.grownBy w' (blk A n) := by
  have hp := fun (o : Obj) => (Below.refl w.heap.size w).alloc (Nat.le_refl _) o
  have h1 := Lib.hid (fun o => markIntS_c A n c base cs q (w.alloc o) (hA.below (hp o)) hn hq0 hq)
  have HP := Lib.hid (fun o => grown_of_below (hp o) (blk A n))
  clear hA hp
  go_enter Try.func28, Try.ntmps28
  go_wp2_with fail
  refine (h1.out _).mono ?_
  rintro e w1 ⟨rfl, ho, hg⟩
  have HO := Lib.hid ho
  have HG := Lib.hid ((HP.out _).trans hg)
  clear ho hg
  go_wp2_with fail
  go_ret
  exact ⟨rfl, HO.out, HG.out⟩

end Go.Proofs.Ytlohpphmamapeaa
