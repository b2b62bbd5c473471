/-
  The contracts of ClassesOf and CountClasses.
  Conditions: at most 2^20 entries.
-/
import Derived.Test.YtlohpphmamapeaaNum
import Derived.Test.YtlohpphmamapeaaConcat
import Derived.Test.YtlohpphmamapeaaPushH
import Derived.Deep.RegionHeld3
import Derived.Deep.RegionLaw
namespace Go.Proofs.Ytlohpphmamapeaa
open Go.RowKit
set_option linter.unusedVariables false
set_option linter.unusedSimpArgs false

theorem ideal_pos {n : Nat} {xs : List Int} {kind i : Int} (hn : 1 ≤ n) (h : M.InP n xs) (hl : xs.length = n * n) (hi : 0 ≤ i ∧ i < n) : 0 < (M.ideal n xs kind i).length := by
  have h1 := raw_pos hn xs kind i n hn
  obtain ⟨z, hz⟩ : ∃ z, z ∈ M.rawTo n xs kind i n := by
    cases hr : M.rawTo n xs kind i n with
    | nil => rw [hr] at h1; simp at h1
    | cons z l => exact ⟨z, by simp⟩
  obtain ⟨h2, h3⟩ := raw_in h hl hi n (Nat.le_refl _) z hz
  have h4 : z ∈ M.ideal n xs kind i := mem_sel.2 ⟨z.toNat, by omega, by rw [show ((z.toNat : Nat) : Int) = z by omega]; simpa using hz, by omega⟩
  exact List.length_pos_of_mem h4
theorem slInts : SlT Try.prog 111 35 1 := sl_of Try.underlying111 (by decide) (by kernel_rfl)
/-- A call that returns a list of numbers that is not empty, in a block of its own. -/
def RetInts (d : List Int) (w : World) (e : Ending) (w' : World) : Prop := ∃ b o c, e = .returned (.slice (some ⟨b, o, none⟩) d.length c) ∧ Rd w' 1 (some ⟨b, o, none⟩) d.length (ints d) ∧ w.heap.size ≤ b ∧ Below w.heap.size w w'
theorem retInts {d : List Int} (hd : 0 < d.length) {w w' : World} {A : Option Addr} {c : Nat} (ho : Own w' w.heap.size 1 A d.length (ints d)) (hb : Below w.heap.size w w') : RetInts d w (.returned (.slice A d.length c)) w' := by
  obtain ⟨g, o, hA, hg, _⟩ := ho.cells hd
  subst hA
  exact ⟨g, o, c, rfl, ho.rd, hg, hb⟩
/-- The lists of which the first i are gathered, each in a block behind bk and apart from the row kb. -/
def KeysIn (w : World) (bk : Nat) (kb : Option Nat) (key : Nat → List Int) (i : Nat) (vs : List Value) : Prop :=
  ∀ j, j < i → ∃ b o c, vs[j]? = some (.slice (some ⟨b, o, none⟩) (key j).length c) ∧ Rd w 1 (some ⟨b, o, none⟩) (key j).length (ints (key j)) ∧ bk < b ∧ some b ≠ kb ∧ b < w.heap.size
/-- The state of the loop that gathers the lists. -/
def KS (w wr : World) (g bk n : Nat) (T : Value) (key : Nat → List Int) (i : Nat) (K : Value) (vs : List Value) : Prop :=
  (wr.cell? ⟨g, 0, none⟩ = some (.int .i64 (n : Int)) ∧ wr.cell? ⟨g, 1, none⟩ = some T ∧ wr.cell? ⟨bk, 0, none⟩ = some K ∧ wr.frozen? ⟨bk, 0, none⟩ = false) ∧ wr.ownsRow (bk + 1) 35 1 K i vs ∧ (bk + 1 ≤ wr.heap.size ∧ g < bk) ∧ KeysIn wr bk K.ownBlock key i vs ∧ Below g w wr
section
variable {w wr w' : World} {g bk n i : Nat} {T K K' : Value} {key : Nat → List Int} {vs : List Value}
theorem KS.below (h : KS w wr g bk n T key i K vs) (hb : Below wr.heap.size wr w') : KS w w' g bk n T key i K vs := by
  obtain ⟨⟨c0, c1, k0, f0⟩, ho, ⟨h1, h2⟩, hk, hB⟩ := h
  have hs := hb.size
  refine ⟨⟨cellKeep hb c0, cellKeep hb c1, cellKeep hb k0, ((bcell hb).2 _ _ (by omega)).trans f0⟩, own_below ho hb, ⟨by omega, h2⟩, fun j hj => ?_, hB.trans (hb.mono (by omega))⟩
  obtain ⟨b, o, c, e, hr, h3, h4, h5⟩ := hk j hj
  exact ⟨b, o, c, e, hr.below hb, h3, h4, by omega⟩
theorem KS.own (h : KS w wr g bk n T key i K vs) : wr.ownsRow (bk + 1) 35 1 K i vs := h.2.1
theorem KS.base (h : KS w wr g bk n T key i K vs) : bk + 1 ≤ wr.heap.size := h.2.2.1.1
theorem KS.tab (h : KS w wr g bk n T key i K vs) : wr.cell? ⟨g, 0, none⟩ = some (.int .i64 (n : Int)) ∧ wr.cell? ⟨g, 1, none⟩ = some T := ⟨h.1.1, h.1.2.1⟩
theorem KS.cell (h : KS w wr g bk n T key i K vs) : wr.cell? ⟨bk, 0, none⟩ = some K := h.1.2.2.1
theorem KS.fr (h : KS w wr g bk n T key i K vs) : wr.frozen? ⟨bk, 0, none⟩ = false := h.1.2.2.2
theorem KS.rest (h : KS w wr g bk n T key i K vs) (hg : wr.grownBy w' K.ownBlock) : Below (bk + 1) wr w' := (Below.refl (bk + 1) wr).grown hg h.base (fun _ hk => (h.own.lt _ hk).1)
theorem KS.cellg (h : KS w wr g bk n T key i K vs) (hg : wr.grownBy w' K.ownBlock) : w'.cell? ⟨bk, 0, none⟩ = some K := cellBelow (h.rest hg) (by omega) h.cell
theorem KS.frg (h : KS w wr g bk n T key i K vs) (hg : wr.grownBy w' K.ownBlock) : w'.frozen? ⟨bk, 0, none⟩ = false := ((h.rest hg).frozen (p := ⟨bk, 0, none⟩) (by simp)).trans h.fr
theorem KS.push (h : KS w wr g bk n T key i K vs) (hg : wr.grownBy w' K.ownBlock) (hat : K'.ownBlock = K.ownBlock ∨ K'.ownBlock = some wr.heap.size) {b o c : Nat}
    (ho : w'.ownsRow (bk + 1) 35 1 K' (i + 1) (vs ++ [.slice (some ⟨b, o, none⟩) (key i).length c])) (hp : 0 < (key i).length) (hr : Rd wr 1 (some ⟨b, o, none⟩) (key i).length (ints (key i))) (hbk : bk < b) (hne : some b ≠ K.ownBlock) :
    KS w (w'.setCell ⟨bk, 0, none⟩ K') g bk n T key (i + 1) K' (vs ++ [.slice (some ⟨b, o, none⟩) (key i).length c]) := by
  have hrs := h.rest hg
  have hcl := h.cellg hg
  have hfr := h.frg hg
  obtain ⟨⟨c0, c1, k0, f0⟩, hown, ⟨h1, h2⟩, hk, hB⟩ := h
  have hvl : vs.length = i := by have := hown.1; omega
  have hlt : b < wr.heap.size := hr.lt (by decide) hp rfl
  have hsz := hg.size
  refine ⟨⟨?_, ?_, ?_, ?_⟩, ownsRow_setCell_below ho (by simp) _, ⟨by simp; omega, h2⟩, fun j hj => ?_, ?_⟩
  · exact (cell_set_ne _ (Or.inl (by omega))).trans (cellBelow hrs (by omega) c0)
  · exact (cell_set_ne _ (Or.inl (by omega))).trans (cellBelow hrs (by omega) c1)
  · exact cell_set_eq _ hcl
  · rw [World.frozen?_setCell]; exact hfr
  · have key1 : ∀ {b' o' c' : Nat}, Rd wr 1 (some ⟨b', o', none⟩) (key j).length (ints (key j)) → bk < b' → some b' ≠ K.ownBlock → b' < wr.heap.size → Rd (w'.setCell ⟨bk, 0, none⟩ K') 1 (some ⟨b', o', none⟩) (key j).length (ints (key j)) ∧ some b' ≠ K'.ownBlock ∧ b' < (w'.setCell ⟨bk, 0, none⟩ K').heap.size := fun {b' o' c'} hr' h3 h4 h5 => by
      refine ⟨?_, ?_, by simp; omega⟩
      · refine (hr'.grown hg (fun _ ad ha => by injection ha with ha; subst ha; exact h4)).keep fun q p u hq hu => ?_
        simp at hq
        subst hq
        exact (cell_set_ne _ (Or.inl (by omega))).trans hu
      · rcases hat with e | e
        · rw [e]; exact h4
        · rw [e]
          intro e2
          injection e2 with e2
          omega
    by_cases hji : j < i
    · obtain ⟨b', o', c', e, hr', h3, h4, h5⟩ := hk j hji
      obtain ⟨r1, r2, r3⟩ := key1 (c' := c') hr' h3 h4 h5
      exact ⟨b', o', c', by rw [List.getElem?_append_left (by omega)]; exact e, r1, h3, r2, r3⟩
    · obtain rfl : j = i := by omega
      obtain ⟨r1, r2, r3⟩ := key1 (c' := c) hr hbk hne hlt
      exact ⟨b, o, c, by rw [List.getElem?_append_right (by omega), hvl, Nat.sub_self]; rfl, r1, hbk, r2, r3⟩
  · exact (hB.trans (hrs.mono (by omega))).setCell (by simp; omega) _
/-- A list of the call's own that was made behind a moment lies apart from the row. -/
theorem KS.far (h : KS w wr g bk n T key i K vs) {b : Nat} (hb : wr.heap.size ≤ b) : bk < b ∧ some b ≠ K.ownBlock := by
  refine ⟨by have := h.base; omega, fun e => ?_⟩
  have := (h.own.lt b e.symm).2
  omega
end
set_option maxRecDepth 100000 in
set_option maxHeartbeats 2000000 in
theorem ClassesOf1_c (w : World) (g bk n : Nat) (T : Value) (key : Nat → List Int) (K : Option Addr) (c : Nat) (vs : List Value) (wr : World) (hks : KS w wr g bk n T key n (.slice K n c) vs) (i k : Nat) (hi : i < n) (hk : k < n) (hn : n ≤ 40) (hkl : ∀ j, (key j).length ≤ 1048576) :
    Calls Try.prog 92 #[.int .i64 (i : Int), .int .i64 (k : Int), .pointer (some ⟨bk, 0, none⟩)] wr fun e w' => e = .returned (.bool (decide (key i = key k))) ∧ Below wr.heap.size wr w' := by
  obtain ⟨bi, oi, ci, ei, ri, _⟩ := hks.2.2.2.1 i hi
  obtain ⟨b2, o2, c2, e2, r2, _⟩ := hks.2.2.2.1 k hk
  obtain ⟨b, o, hK, hcs⟩ := (Rd.of_own hks.own).2 (by omega)
  subst hK
  have d1 := hcs i _ ei
  have d2 := hcs k _ e2
  have d0 := hks.cell
  have HE := Lib.hid (fun W h1 h2 => equalInts_c (some ⟨bi, oi, none⟩) ci (key i) (some ⟨b2, o2, none⟩) c2 (key k) W h1 h2 (hkl i) (hkl k))
  have RI := Lib.hid ri
  have R2 := Lib.hid r2
  have hii : (i : Int) < (n : Int) := by omega
  have hkk : (k : Int) < (n : Int) := by omega
  generalize decide (key i = key k) = v at *
  clear hcs ei e2 ri r2 hks hkl
  generalize (key i).length = li at *
  generalize (key k).length = lk at *
  go_enter Try.func92, Try.ntmps92
  go_wp2_with fail
  go_region_held3 (fun w' => w'.cell? ⟨bk, 0, none⟩ = some (.slice (some ⟨b, o, none⟩) n c) ∧ w'.cell? ⟨b, o + i, none⟩ = some (.slice (some ⟨bi, oi, none⟩) li ci) ∧ w'.cell? ⟨b, o + k, none⟩ = some (.slice (some ⟨b2, o2, none⟩) lk c2)) (first | exact ⟨d0, d1, d2⟩ | exact ⟨cellKeep hb4 d0, cellKeep hb4 d1, cellKeep hb4 d2⟩ | go_keep) (first | (go_simp; go_at_call 93; refine (HE.out _ (by first | exact RI.out | exact RI.out.below (Below.refl _ _).drew) (by first | exact R2.out | exact R2.out.below (Below.refl _ _).drew)).mono ?_; rintro e w4 ⟨rfl, hb4⟩))
  all_goals
    have HB := Lib.hid (below_drew1 hb4)
    clear hb4
    go_wp2_with fail
    go_ret
    exact ⟨rfl, HB.out⟩
end Go.Proofs.Ytlohpphmamapeaa
