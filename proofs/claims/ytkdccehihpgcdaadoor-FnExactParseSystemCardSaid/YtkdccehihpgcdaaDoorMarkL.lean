/-
  What a marking of one slice leaves of the others: blocks that lie apart.
  Conditions: none; this text names no law.
-/
import Derived.Test.YtkdccehihpgcdaaDoorOwn
import Derived.Test.YtkdccehihpgcdaaDoorEqC
namespace Go.Proofs.YtkdccehihpgcdaaDoor
open Go.RowKit
set_option linter.unusedVariables false

theorem cellGrown {w w' : World} {row : Option Nat} {b o : Nat} {u : Value} (hg : w.grownBy w' row) (h : w.cell? ⟨b, o, none⟩ = some u) (hne : some b ≠ row) : w'.cell? ⟨b, o, none⟩ = some u :=
  (World.cell?_of_block (a := ⟨b, o, none⟩) (hg.block b (World.block_lt_of_cell? w _ h) hne)).trans h
/-- Where the block of a slice lies. -/
def BlkIn (A : Option Addr) (n lo hi : Nat) : Prop := ∀ g, blk A n = some g → lo ≤ g ∧ g < hi
theorem Own.blkIn {w : World} {base size n : Nat} {A : Option Addr} {xs : List Value} (h : Own w base size A n xs) : BlkIn A n base w.heap.size := h.lt
theorem Rd.blkIn {w : World} {size n : Nat} {A : Option Addr} {xs : List Value} (h : Rd w size A n xs) (hs : 0 < size) : BlkIn A n 0 w.heap.size := fun g hg => by
  obtain ⟨hn, ad, rfl, rfl⟩ := blk_some hg
  exact ⟨Nat.zero_le _, h.lt hs hn rfl⟩
theorem blk_ne {A A' : Option Addr} {n n' lo hi lo' hi' : Nat} (h : BlkIn A n lo hi) (h' : BlkIn A' n' lo' hi') (hd : hi ≤ lo' ∨ hi' ≤ lo) : ∀ g, blk A n = some g → some g ≠ blk A' n' := fun g hg e => by
  have h1 := h g hg
  have h2 := h' g e.symm
  omega
theorem blk_off {A : Option Addr} {n lo hi b : Nat} (h : BlkIn A n lo hi) (hd : b < lo ∨ hi ≤ b) : some b ≠ blk A n := fun e => by
  have := h b e.symm
  omega
theorem Rd.grown' {w w' : World} {size n : Nat} {A : Option Addr} {xs : List Value} {row : Option Nat} (h : Rd w size A n xs) (hg : w.grownBy w' row) (hne : ∀ g, blk A n = some g → some g ≠ row) : Rd w' size A n xs :=
  h.grown hg fun hn ad ha => hne ad.block (by unfold blk; rw [if_neg (by omega), ha]; rfl)
theorem below_grown {B : Nat} {w0 w w' : World} {A : Option Addr} {n lo hi : Nat} (ht : Below B w0 w) (hB : B ≤ w.heap.size) (hg : w.grownBy w' (blk A n)) (hi' : BlkIn A n lo hi) (hl : B ≤ lo) : Below B w0 w' :=
  ht.grown hg hB (fun k hk => Nat.le_trans hl (hi' k hk).1)

end Go.Proofs.YtkdccehihpgcdaaDoor
