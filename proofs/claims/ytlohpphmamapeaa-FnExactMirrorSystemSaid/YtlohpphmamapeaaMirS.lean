/-
  Contracts of MirrorSystem.
  Conditions: at most 2^20 rules of at most 2^20 letters.
-/
import Derived.Test.YtlohpphmamapeaaOkC2
import Derived.Test.YtlohpphmamapeaaMirror
import Derived.Test.YtlohpphmamapeaaInter
import Derived.Test.YtlohpphmamapeaaPushM
import Derived.Test.YtlohpphmamapeaaMarkL
import Derived.Test.YtlohpphmamapeaaVal
import Derived.Test.YtlohpphmamapeaaOwn
import Derived.BigQuiet
import Derived.Deep.RegionHeld3
import Derived.Deep.RegionLaw
namespace Go.Proofs.Ytlohpphmamapeaa
open Go.RowKit
set_option linter.unusedVariables false
set_option linter.unusedSimpArgs false

def M.mirRule (r : M.Rule) : M.Rule := M.oriented ⟨r.left.reverse, r.right.reverse⟩
def M.mirK (k : Int) (rs : List M.Rule) : Int := if M.SystemOk k rs = true then k else 0
def M.mirQ (k : Int) (rs : List M.Rule) : List M.Rule := if M.SystemOk k rs = true then rs.map M.mirRule else []
theorem bl_irrefl' : ∀ x : List UInt8, Op.bytesLess x x = false
  | [] => rfl
  | a :: x => by simp [Op.bytesLess, bl_irrefl' x]
theorem less_irrefl' (u : List UInt8) : M.IsLess u u = false := by simp [M.IsLess, bl_irrefl']
theorem sidesRev {k : Int} {a b : List UInt8} (h : M.SidesOk k ⟨a, b⟩ = true) : M.SidesOk k ⟨a.reverse, b.reverse⟩ = true := by
  have hw : ∀ l : List UInt8, M.WordOk k l.reverse = M.WordOk k l := fun l => by unfold M.WordOk M.hasLetters; rw [List.all_reverse, List.length_reverse]
  unfold M.SidesOk at h ⊢
  simp only [hw, List.length_reverse]
  exact h
theorem orientMir {k : Int} {rs : List M.Rule} (h : M.SystemOk k rs = true) {r : M.Rule} (hr : r ∈ rs) : M.OrientRule k ⟨r.left.reverse, r.right.reverse⟩ = (M.mirRule r, true) := by
  unfold M.SystemOk at h
  obtain ⟨h1, h2⟩ := Bool.and_eq_true_iff.1 h
  unfold M.RulesOk at h1
  have h3 := (Bool.and_eq_true_iff.1 (Bool.and_eq_true_iff.1 h1).2).2
  have hside : M.SidesOk k r = true := by
    by_cases hs : M.SidesOk k r = true
    · exact hs
    · have hb : rs.any (M.ruleBad k) = true := List.any_eq_true.2 ⟨r, hr, by unfold M.ruleBad; simp [hs]⟩
      rw [hb] at h3
      cases h3
  have hless : M.IsLess r.right r.left = true := by
    by_cases hs : M.IsLess r.right r.left = true
    · exact hs
    · have hb : rs.any M.notLess = true := List.any_eq_true.2 ⟨r, hr, by unfold M.notLess; simp [hs]⟩
      rw [hb] at h2
      cases h2
  have hne : r.left.reverse ≠ r.right.reverse := fun he => by
    have h4 : r.left = r.right := by simpa using he
    rw [h4, less_irrefl'] at hless
    cases hless
  unfold M.OrientRule M.mirRule
  rw [if_neg (by rw [sidesRev (a := r.left) (b := r.right) hside]; simp), if_neg hne]
/-- The boxes of the walk: the argument's, the result's, the new system's. -/
def MirSt (wr : World) (h g : Nat) (k : Int) (S V : Value) : Prop :=
  wr.cell? ⟨h, 0, none⟩ = some (.int .i64 k) ∧ wr.cell? ⟨h, 1, none⟩ = some S ∧ wr.cell? ⟨h + 1, 0, none⟩ = some (.int .i64 0) ∧ wr.cell? ⟨h + 1, 1, none⟩ = some (.slice none 0 0) ∧ wr.frozen? ⟨h + 1, 0, none⟩ = false ∧ wr.frozen? ⟨h + 1, 1, none⟩ = false ∧ wr.cell? ⟨g, 0, none⟩ = some (.int .i64 k) ∧ wr.cell? ⟨g, 1, none⟩ = some V ∧ wr.frozen? ⟨g, 1, none⟩ = false
def MirQ (w wr : World) (B0 h g : Nat) (k : Int) (S V : Value) (n : Nat) (xs : List Value) : Prop :=
  MirSt wr h g k S V ∧ wr.ownsRow B0 84 2 V n xs ∧ B0 ≤ wr.heap.size ∧ (h + 1 < g ∧ g < B0 ∧ w.heap.size = h) ∧ Below h w wr
section
variable {w wr w' : World} {B0 h g n : Nat} {k : Int} {S V V' : Value} {xs ys : List Value}
theorem MirSt.below (hs : MirSt wr h g k S V) (hb : Below B0 wr w') (h1 : h + 1 < B0) (h2 : g < B0) : MirSt w' h g k S V := by
  obtain ⟨c0, c1, r0, r1, f0, f1, o0, o1, fo⟩ := hs
  have hc := fun (b o : Nat) (u : Value) (hlt : b < B0) (h : wr.cell? ⟨b, o, none⟩ = some u) => cellBelow hb hlt h
  have hf := fun (b o : Nat) (u : Bool) (hlt : b < B0) (h : wr.frozen? ⟨b, o, none⟩ = u) => (hb.frozen (p := ⟨b, o, none⟩) hlt).trans h
  exact ⟨hc _ _ _ (by omega) c0, hc _ _ _ (by omega) c1, hc _ _ _ (by omega) r0, hc _ _ _ (by omega) r1, hf _ _ _ (by omega) f0, hf _ _ _ (by omega) f1, hc _ _ _ h2 o0, hc _ _ _ h2 o1, hf _ _ _ h2 fo⟩
theorem MirSt.store (hs : MirSt wr h g k S V) (h1 : h + 1 < g) (V' : Value) : MirSt (wr.setCell ⟨g, 1, none⟩ V') h g k S V' := by
  obtain ⟨c0, c1, r0, r1, f0, f1, o0, o1, fo⟩ := hs
  have hf := fun (b o : Nat) => (World.frozen?_setCell _ _ _ _ : (wr.setCell ⟨g, 1, none⟩ V').frozen? ⟨b, o, none⟩ = wr.frozen? ⟨b, o, none⟩)
  exact ⟨(cell_set_ne _ (Or.inl (by omega))).trans c0, (cell_set_ne _ (Or.inl (by omega))).trans c1, (cell_set_ne _ (Or.inl (by omega))).trans r0, (cell_set_ne _ (Or.inl (by omega))).trans r1, (hf _ _).trans f0, (hf _ _).trans f1, (cell_set_ne _ (Or.inr (by decide))).trans o0, cell_set_eq _ o1, (hf _ _).trans fo⟩
theorem MirQ.below (hq : MirQ w wr B0 h g k S V n xs) (hb : Below wr.heap.size wr w') : MirQ w w' B0 h g k S V n xs := by
  obtain ⟨hs, ho, hB, hh, hw⟩ := hq
  exact ⟨hs.below hb (by omega) (by omega), own_below ho hb, Nat.le_trans hB hb.size, hh, hw.trans (hb.mono (by omega))⟩
theorem MirQ.below' (hb : Below wr.heap.size wr w') (hq : MirQ w wr B0 h g k S V n xs) : MirQ w w' B0 h g k S V n xs := hq.below hb
theorem MirQ.c0 (hq : MirQ w wr B0 h g k S V n xs) : wr.cell? ⟨h, 0, none⟩ = some (.int .i64 k) := hq.1.1
theorem MirQ.o0 (hq : MirQ w wr B0 h g k S V n xs) : wr.cell? ⟨g, 0, none⟩ = some (.int .i64 k) := hq.1.2.2.2.2.2.2.1
theorem MirQ.o1 (hq : MirQ w wr B0 h g k S V n xs) : wr.cell? ⟨g, 1, none⟩ = some V := hq.1.2.2.2.2.2.2.2.1
theorem MirQ.fo (hq : MirQ w wr B0 h g k S V n xs) : wr.frozen? ⟨g, 1, none⟩ = false := hq.1.2.2.2.2.2.2.2.2
theorem MirQ.own (hq : MirQ w wr B0 h g k S V n xs) : wr.ownsRow B0 84 2 V n xs := hq.2.1
theorem MirQ.bel (hq : MirQ w wr B0 h g k S V n xs) : Below h w wr := hq.2.2.2.2
theorem MirQ.base (hq : MirQ w wr B0 h g k S V n xs) : B0 ≤ wr.heap.size := hq.2.2.1
theorem MirQ.far (hq : MirQ w wr B0 h g k S V n xs) : some wr.heap.size ≠ V.ownBlock := fun he => by
  have h1 := (hq.own.lt _ he.symm).2
  omega
/-- What the boxes hold behind an append to the row. -/
theorem MirQ.grown (hq : MirQ w wr B0 h g k S V n xs) (hg : wr.grownBy w' V.ownBlock) : Below B0 wr w' := (Below.refl B0 wr).grown hg hq.base (fun _ hk => (hq.own.lt _ hk).1)
theorem MirQ.o1g (hq : MirQ w wr B0 h g k S V n xs) (hg : wr.grownBy w' V.ownBlock) : w'.cell? ⟨g, 1, none⟩ = some V := cellBelow (hq.grown hg) hq.2.2.2.1.2.1 hq.o1
theorem MirQ.fog (hq : MirQ w wr B0 h g k S V n xs) (hg : wr.grownBy w' V.ownBlock) : w'.frozen? ⟨g, 1, none⟩ = false := ((hq.grown hg).frozen (p := ⟨g, 1, none⟩) hq.2.2.2.1.2.1).trans hq.fo
theorem MirQ.push (hq : MirQ w wr B0 h g k S V n xs) (hg : wr.grownBy w' V.ownBlock) {m : Nat} (ho : w'.ownsRow B0 84 2 V' m ys) : MirQ w (w'.setCell ⟨g, 1, none⟩ V') B0 h g k S V' m ys := by
  have hb := hq.grown hg
  have hB := hq.base
  obtain ⟨hs, _, _, hh, hw⟩ := hq
  refine ⟨(hs.below hb (by omega) (by omega)).store (by omega) V', ownsRow_setCell_below ho (by simpa using hh.2.1) V', ?_, hh, ?_⟩
  · have h1 := hb.size
    have h2 := (Below.setCell (a := w') (Below.refl h w') (p := ⟨g, 1, none⟩) (by simp; omega) V').size
    omega
  · exact (hw.trans (hb.mono (by omega))).setCell (by simp; omega) V'
end
section
variable {P : Program} {ops : Array Oper} {rest : List Oper} {o : Oper} {a : Act} {Q : Exit → Act → World → Prop} {w W : World}
theorem push_law_h (hgd : o.guard = none) (s x : Operand) {t : TypeId} (ho : o.op = .call { callee := .builtin .append, args := #[s, x], argTypes := #[t, t] }) {e : TypeId} {size : Nat} (T : SlT P t e size)
    {base : Nat} {A : Option Addr} {n c : Nat} {xs : List Value} (hs : a.eval s = .slice A n c) (hown : W.ownsRow base e size (.slice A n c) n xs) {us : List Value} {g : Nat} (hx : a.eval x = .slice (some ⟨g, 0, none⟩) 1 1)
    (hus : us.length = size) (h1 : ∀ u ∈ us, u.oneCell' = true) (hblk : W.heap[g]? = some (.cells us.toArray e (0, 0))) (hbw : base ≤ W.heap.size) (hn : n < 1099511627776)
    (h : ∀ A' c' w', w'.ownsRow base e size (.slice A' (n + 1) c') (n + 1) (xs ++ us) → W.grownBy w' (Value.slice A n c).ownBlock → wpList P ops Q rest (a.put o.dst (.slice A' (n + 1) c')) w') : wpList P ops Q (o :: rest) a W := by
  obtain ⟨i, z, hi, hz, hsz, hby, hzs⟩ := T.info
  refine wpList_append_own W hgd s x t ho base e i z size i.bytes T.und hi hz hsz rfl hzs T.pos (.slice A n c) n xs hs hown ⟨g, 0, none⟩ 1 1 us hx (by simpa using hus) (fun j u hu => ?_) h1 (by simp only [maxLen]; omega) ?_ hbw ?_
  · have ha : (⟨g, 0, none⟩ : Addr).add j = ⟨g, j, none⟩ := by unfold Addr.add; split <;> simp_all
    rw [ha, cell_of_row W g j us.toArray e (0, 0) hblk]
    simpa using hu
  · have : (n + 1) * i.bytes ≤ 1099511627776 * 64 := Nat.mul_le_mul (by omega) hby
    omega
  · intro v' w' hown' hg _
    obtain ⟨A', c', rfl⟩ := own_slice hown'
    exact h A' c' w' hown' hg
theorem step_push_h {K : Act → World → Prop} {E : Prop} (hgd : o.guard = none) (s x : Operand) {t : TypeId} (ho : o.op = .call { callee := .builtin .append, args := #[s, x], argTypes := #[t, t] }) {e : TypeId} {size : Nat} (T : SlT P t e size)
    {base : Nat} {A : Option Addr} {n c : Nat} {xs : List Value} (hs : a.eval s = .slice A n c) (hown : W.ownsRow base e size (.slice A n c) n xs) {us : List Value} {g : Nat} (hx : a.eval x = .slice (some ⟨g, 0, none⟩) 1 1)
    (hus : us.length = size) (h1 : ∀ u ∈ us, u.oneCell' = true) (hblk : W.heap[g]? = some (.cells us.toArray e (0, 0))) (hbw : base ≤ W.heap.size) (hn : n < 1099511627776)
    (h : ∀ A' c' w', w'.ownsRow base e size (.slice A' (n + 1) c') (n + 1) (xs ++ us) → W.grownBy w' (Value.slice A n c).ownBlock → K (a.put o.dst (.slice A' (n + 1) c')) w') :
    if Region.wanted o (yielded ops a.tmps) = true then Oper.wp P o a W K Q else E := by
  obtain ⟨i, z, hi, hz, hsz, hby, hzs⟩ := T.info
  have hw : Region.wanted o (yielded ops a.tmps) = true := by simp [Region.wanted, hgd]
  rw [if_pos hw]
  refine wp_append_own W s x t ho base e i z size i.bytes T.und hi hz hsz rfl hzs T.pos (.slice A n c) n xs hs hown ⟨g, 0, none⟩ 1 1 us hx (by simpa using hus) (fun j u hu => ?_) h1 (by simp only [maxLen]; omega) ?_ hbw ?_
  · have ha : (⟨g, 0, none⟩ : Addr).add j = ⟨g, j, none⟩ := by unfold Addr.add; split <;> simp_all
    rw [ha, cell_of_row W g j us.toArray e (0, 0) hblk]
    simpa using hu
  · have : (n + 1) * i.bytes ≤ 1099511627776 * 64 := Nat.mul_le_mul (by omega) hby
    omega
  · intro v' w' hown' hg _
    obtain ⟨A', c', rfl⟩ := own_slice hown'
    exact h A' c' w' hown' hg
end
theorem held3_set {a w : World} {b1 o1 b2 o2 b3 o3 g o : Nat} {u1 u2 u3 : Value} (h : w.cell? ⟨b1, o1, none⟩ = some u1 ∧ w.cell? ⟨b2, o2, none⟩ = some u2 ∧ w.cell? ⟨b3, o3, none⟩ = some u3 ∧ Below a.heap.size a w) (h1 : b1 < a.heap.size) (h2 : b2 < a.heap.size) (h3 : b3 < a.heap.size) (hg : a.heap.size ≤ g) (u : Value) :
    (w.setCell ⟨g, o, none⟩ u).cell? ⟨b1, o1, none⟩ = some u1 ∧ (w.setCell ⟨g, o, none⟩ u).cell? ⟨b2, o2, none⟩ = some u2 ∧ (w.setCell ⟨g, o, none⟩ u).cell? ⟨b3, o3, none⟩ = some u3 ∧ Below a.heap.size a (w.setCell ⟨g, o, none⟩ u) :=
  ⟨(cell_set_ne _ (Or.inl (by omega))).trans h.1, (cell_set_ne _ (Or.inl (by omega))).trans h.2.1, (cell_set_ne _ (Or.inl (by omega))).trans h.2.2.1, h.2.2.2.setCell hg u⟩
abbrev zeroRule : Obj := .cells #[.string ⟨#[]⟩, .string ⟨#[]⟩] 84
theorem newCell0 (w : World) : (w.alloc zeroRule).drew.cell? ⟨w.heap.size, 0, none⟩ = some (.string ⟨#[]⟩) := by simp [go_sem, zeroRule]
theorem newCell1 (w : World) : (w.alloc zeroRule).drew.cell? ⟨w.heap.size, 1, none⟩ = some (.string ⟨#[]⟩) := by simp [go_sem, zeroRule]
theorem newFr (w : World) (j : Nat) : (w.alloc zeroRule).drew.frozen? ⟨w.heap.size, j, none⟩ = false := by simp [go_sem, zeroRule]
theorem newLt (w : World) : w.heap.size < (w.alloc zeroRule).drew.heap.size := by simp
def MirW (w wr : World) (B0 h g : Nat) (k : Int) (S V : Value) (n : Nat) (xs : List Value) (gb : Nat) (l r : List UInt8) : Prop := MirQ w wr B0 h g k S V n xs ∧ wr.cell? ⟨gb, 0, none⟩ = some (.string ⟨l.toArray⟩) ∧ wr.cell? ⟨gb, 1, none⟩ = some (.string ⟨r.toArray⟩)
theorem MirW.below' {w wr w' : World} {B0 h g n gb : Nat} {k : Int} {S V : Value} {xs : List Value} {l r : List UInt8} (hb : Below wr.heap.size wr w') (hq : MirW w wr B0 h g k S V n xs gb l r) : MirW w w' B0 h g k S V n xs gb l r := ⟨hq.1.below hb, cellKeep hb hq.2.1, cellKeep hb hq.2.2⟩
def RetMir (k : Int) (rs : List M.Rule) (b : Bool) (w : World) (x : Ending) (w' : World) : Prop :=
  ∃ A c, x = .returned (.tuple #[.agg #[.int .i64 k, .slice A rs.length c], .bool b]) ∧ Own w' w.heap.size 2 A rs.length (ruls rs) ∧ Below w.heap.size w w'
theorem mir_no {k : Int} {rs : List M.Rule} (h : M.SystemOk k rs = false) : M.mirK k rs = 0 ∧ M.mirQ k rs = [] := ⟨if_neg (by rw [h]; simp), if_neg (by rw [h]; simp)⟩
theorem mir_yes {k : Int} {rs : List M.Rule} (h : M.SystemOk k rs = true) : M.mirK k rs = k ∧ M.mirQ k rs = rs.map M.mirRule := ⟨if_pos h, if_pos h⟩
theorem ruls_map_add {rs : List M.Rule} {i : Nat} (h : i < rs.length) : ruls ((rs.take (i + 1)).map M.mirRule) = ruls ((rs.take i).map M.mirRule) ++ [.string ⟨(M.mirRule rs[i]).left.toArray⟩, .string ⟨(M.mirRule rs[i]).right.toArray⟩] := by
  rw [List.take_succ_eq_append_getElem h, List.map_append, ruls_add]
  rfl

set_option maxRecDepth 100000 in
set_option maxHeartbeats 4000000 in
theorem spec_MirrorSystem_c (k : Int) (A : Option Addr) (c : Nat) (rs : List M.Rule) (w : World) (hA : Rd w 2 A rs.length (ruls rs)) (hl : rs.length ≤ 1048576) (hs : ∀ r ∈ rs, r.left.length ≤ 1048576 ∧ r.right.length ≤ 1048576) :
    Calls Try.prog 15 #[.agg #[.int .i64 k, .slice A rs.length c]] w (RetMir (M.mirK k rs) (M.mirQ k rs) (M.SystemOk k rs) w) := by
  have HA := Lib.hid hA
  have HS := Lib.hid hs
  have h1 := Lib.hid (fun W hA => spec_SystemOk_c k A c rs W hA hl hs)
  have HP2 := Lib.hid (fun (o1 o2 : Obj) => ((Below.refl w.heap.size w).alloc (Nat.le_refl _) o1).alloc (by simp) o2)
  obtain ⟨x, hx⟩ : ∃ x, x = M.SystemOk k rs := ⟨_, rfl⟩
  rw [← hx] at h1 ⊢
  cases x
  case false =>
    obtain ⟨e1, e2⟩ := mir_no hx.symm
    rw [e1, e2]
    clear hA hs hx e1 e2
    go_enter Try.func15, Try.ntmps15
    go_wp2_with fail
    refine (h1.out _ (HA.out.below (HP2.out _ _))).mono ?_
    rintro e w1 ⟨rfl, hb⟩
    have s1 : w.heap.size + 2 ≤ w1.heap.size := by have := hb.size; simp at this; omega
    have d11 : w1.cell? ⟨w.heap.size + 1, 0, none⟩ = some (.int .i64 0) := cellKeep hb (by simp [go_sem])
    have d21 : w1.cell? ⟨w.heap.size + 1, 1, none⟩ = some (.slice none 0 0) := cellKeep hb (by simp [go_sem])
    have f11 : w1.frozen? ⟨w.heap.size + 1, 0, none⟩ = false := ((bcell hb).2 _ _ (by simp)).trans (by simp [go_sem])
    have f21 : w1.frozen? ⟨w.heap.size + 1, 1, none⟩ = false := ((bcell hb).2 _ _ (by simp)).trans (by simp [go_sem])
    have hb1 := Lib.hid (below_alloc2 hb)
    clear hb
    go_wp2_with fail
    refine bodyPost_ret (v := .tuple #[.agg #[.int .i64 0, .slice none 0 0], .bool false]) ?_ rfl ⟨none, 0, rfl, ⟨rfl, fun h => absurd h (by simp)⟩, ?_⟩
    · simp [results, Try.results15, go_sem, cell_set_ne, cell_set_eq _ d11, cell_two' d21]
    · exact (hb1.out.setCell (by simp) _).setCell (by simp) _
  case true =>
  obtain ⟨e1, e2⟩ := mir_yes hx.symm
  rw [e1, e2]
  have HOM := Lib.hid (fun (r : M.Rule) (hr : r ∈ rs) => orientMir hx.symm hr)
  have h12 := rulesLe hx.symm
  have HTA := Lib.hid (fun (i : Nat) (h : i < rs.length) => ruls_map_add h)
  obtain ⟨n, hn⟩ : ∃ n, n = rs.length := ⟨_, rfl⟩
  have HN := Lib.hid hn
  rw [← hn] at h12 HA h1
  have HALL := Lib.hid (show rs.take n = rs by rw [hn]; exact List.take_length)
  rw [← hn]
  clear hA hs hx e1 e2 hn hl
  go_enter Try.func15, Try.ntmps15
  go_wp2_with fail
  refine (h1.out _ (HA.out.below (HP2.out _ _))).mono ?_
  rintro e w1 ⟨rfl, hb⟩
  have s1 : w.heap.size + 2 ≤ w1.heap.size := by have := hb.size; simp at this; omega
  have c0 : w1.cell? ⟨w.heap.size, 0, none⟩ = some (.int .i64 k) := cellKeep hb (by simp [go_sem])
  have c1 : w1.cell? ⟨w.heap.size, 1, none⟩ = some (.slice A n c) := cellKeep hb (by simp [go_sem])
  have d11 : w1.cell? ⟨w.heap.size + 1, 0, none⟩ = some (.int .i64 0) := cellKeep hb (by simp [go_sem])
  have d21 : w1.cell? ⟨w.heap.size + 1, 1, none⟩ = some (.slice none 0 0) := cellKeep hb (by simp [go_sem])
  have f11 : w1.frozen? ⟨w.heap.size + 1, 0, none⟩ = false := ((bcell hb).2 _ _ (by simp)).trans (by simp [go_sem])
  have f21 : w1.frozen? ⟨w.heap.size + 1, 1, none⟩ = false := ((bcell hb).2 _ _ (by simp)).trans (by simp [go_sem])
  have hb1 := Lib.hid (below_alloc2 hb)
  clear hb
  have HQ := Lib.hid (show MirQ w (w1.alloc (.cells #[.int .i64 k, .slice none 0 0] 28)) (w1.heap.size + 1) w.heap.size w1.heap.size k (.slice A n c) (.slice none 0 0) 0 (ruls ((rs.take 0).map M.mirRule)) from
    ⟨⟨allocKeep1 c0 _, allocKeep1 c1 _, allocKeep1 d11 _, allocKeep1 d21 _, ((bcell ((Below.refl w1.heap.size w1).alloc (Nat.le_refl _) _)).2 _ _ (by omega)).trans f11, ((bcell ((Below.refl w1.heap.size w1).alloc (Nat.le_refl _) _)).2 _ _ (by omega)).trans f21, by simp [go_sem], by simp [go_sem], by simp [go_sem]⟩, World.ownsRow_nil _ _ _ _, by simp, ⟨by omega, by omega, rfl⟩, hb1.out.alloc hb1.out.size _⟩)
  have k0 := fun o => allocKeep1 c1 o
  go_wp2_with fail
  clear k0 c0 c1 d11 d21 f11 f21
  obtain ⟨g, hg⟩ : ∃ g, g = w1.heap.size := ⟨_, rfl⟩
  rw [← hg] at HQ ⊢
  have HG := Lib.hid hg
  clear hg
  obtain ⟨h, hh⟩ : ∃ h, h = w.heap.size := ⟨_, rfl⟩
  have HH := Lib.hid hh
  rw [← hh] at HQ s1 ⊢
  obtain ⟨ws, hws⟩ : ∃ ws : World, ws = w1.alloc (.cells #[.int .i64 k, .slice none 0 0] 28) := ⟨_, rfl⟩
  rw [← hws] at HQ ⊢
  clear hws hh
  go_loopw [19] (fun z wr => ∃ (i : Nat) (A' : Option Addr) (c' : Nat), i ≤ n ∧ z = .int .i64 i ∧ MirQ w wr (g + 1) h g k (.slice A n c) (.slice A' i c') i (ruls ((rs.take i).map M.mirRule))) (fun z _ => n - (intOf z).toNat)
  case atStart => exact ⟨0, none, 0, by omega, rfl, HQ.out⟩
  case round =>
    clear HQ
    obtain ⟨i, A', c', hi, rfl, hq⟩ := hrel
    have HQ := Lib.hid hq
    clear hq
    by_cases hlt : i < n
    case neg =>
      obtain rfl : i = n := by omega
      obtain ⟨⟨c0, c1, r0, r1, f0, f1, o0, o1, fo⟩, ho, hB, ⟨hh1, hh2, hh3⟩, hbel⟩ := HQ.out
      go_wp2_with fail
      try simp only [Exit.inBlock, Exit.then]
      refine bodyPost_ret (v := .tuple #[.agg #[.int .i64 k, .slice A' i c'], .bool true]) ?_ ?_ ?_
      · simp [results, Try.results15, go_sem, cell_set_ne, cell_set_eq _ r0, cell_two' r1]
      · rfl
      · exact ⟨A', c', by rw [List.length_map, ← HN.out], by rw [List.length_map, ← HN.out]; rw [HALL.out] at ho; exact (Own.of_row (ownsRow_setCell_below (ownsRow_setCell_below ho (by simp; omega) _) (by simp; omega) _)).mono (by omega), by rw [hh3]; exact (hbel.setCell (by simp) _).setCell (by simp) _⟩
    case pos =>
    obtain ⟨b, o, hA0, hz, hc1, hc2⟩ := (HA.out.below (by have h1 := HQ.out.bel; rw [HH.out] at h1; exact h1)).ruleAt (k := i) hlt
    subst hA0
    have hsz := HS.out rs[i] (List.getElem_mem hz)
    have HO := Lib.hid (HOM.out rs[i] (List.getElem_mem hz))
    have HT := Lib.hid (HTA.out i (by rw [← HN.out]; exact hlt))
    generalize hrr : rs[i] = r at *
    obtain ⟨rl, rr⟩ := r
    simp only at hc1 hc2 hsz HO
    clear hrr
    generalize hmm : M.mirRule ⟨rl, rr⟩ = mr at *
    obtain ⟨ml, mr'⟩ := mr
    have HOR := Lib.hid (fun W => spec_OrientRule_c k rl.reverse rr.reverse W (by simpa using hsz.1) (by simpa using hsz.2))
    rw [HO.out] at HOR
    simp only at HOR HT
    have HM := Lib.hid (fun l (h : l.length ≤ 1048576) W => spec_MirrorWord_c l W h)
    have hsl := hsz.1
    have hsr := hsz.2
    clear hmm hsz
    have hq0 := HQ.out.c0
    have hq1 : ∀ ob : Obj, (wr.alloc ob).cell? ⟨h, 0, none⟩ = some (.int .i64 k) := fun ob => allocKeep1 hq0 ob
    go_wp2_with fail
    obtain ⟨wz, hwz⟩ : ∃ wz : World, wz = wr.alloc (.cells #[.string ⟨rl.toArray⟩, .string ⟨rr.toArray⟩] 84) := ⟨_, rfl⟩
    obtain ⟨gb, hgb⟩ : ∃ gb, gb = wr.heap.size := ⟨_, rfl⟩
    rw [← hwz, ← hgb]
    have z0 : wz.cell? ⟨h, 0, none⟩ = some (.int .i64 k) := by rw [hwz]; exact hq1 _
    have z1 : wz.cell? ⟨gb, 0, none⟩ = some (.string ⟨rl.toArray⟩) := by rw [hwz, hgb]; simp [go_sem]
    have z2 : wz.cell? ⟨gb, 1, none⟩ = some (.string ⟨rr.toArray⟩) := by rw [hwz, hgb]; simp [go_sem]
    have HQZ := Lib.hid (show MirQ w wz (g + 1) h g k (.slice (some ⟨b, o, none⟩) n c) (.slice A' i c') i (ruls ((rs.take i).map M.mirRule)) by rw [hwz]; exact HQ.out.below ((Below.refl _ _).alloc (Nat.le_refl _) _))
    have HZS := Lib.hid (show wz.heap.size = gb + 1 by rw [hwz, hgb]; simp)
    have HHB := Lib.hid (show h < gb by rw [hgb]; obtain ⟨_, _, h1, h2, _⟩ := HQ.out; omega)
    clear hwz hgb hq0 hq1 hc1 hc2 HQ
    have n0 := World.new_ne wz _ z0
    have n1 := World.new_ne wz _ z1
    have n2 := World.new_ne wz _ z2
    go_region_held3 (fun w' => w'.cell? ⟨h, 0, none⟩ = some (.int .i64 k) ∧ w'.cell? ⟨gb, 0, none⟩ = some (.string ⟨rl.toArray⟩) ∧ w'.cell? ⟨gb, 1, none⟩ = some (.string ⟨rr.toArray⟩)) (first | go_keep | exact ⟨allocKeep1 e0 _, allocKeep1 e1 _, allocKeep1 e2 _⟩ | (go_split_ands; exact ⟨cellKeep hb3 (by assumption), cellKeep hb3 (by assumption), cellKeep hb3 (by assumption)⟩)) (first | (go_simp; go_at_call 62; refine (HM.out _ (by first | exact hsl | exact hsr) _).mono ?_; rintro e w2 ⟨rfl, rfl⟩) | (go_simp; go_at_call 61; refine (HOR.out _).mono ?_; rintro e w3 ⟨rfl, hb3⟩; have e0 : w3.cell? ⟨h, 0, none⟩ = some (.int .i64 k) := (by first | exact cellKeep hb3 z0 | exact cellKeep hb3 (allocKeep1 z0 zeroRule)); have e1 : w3.cell? ⟨gb, 0, none⟩ = some (.string ⟨rl.toArray⟩) := (by first | exact cellKeep hb3 z1 | exact cellKeep hb3 (allocKeep1 z1 zeroRule)); have e2 : w3.cell? ⟨gb, 1, none⟩ = some (.string ⟨rr.toArray⟩) := (by first | exact cellKeep hb3 z2 | exact cellKeep hb3 (allocKeep1 z2 zeroRule)); have m0 := World.new_ne w3 _ e0; have m1 := World.new_ne w3 _ e1; have m2 := World.new_ne w3 _ e2; (first | (have a0 := cellKeep hb3 (newCell0 wz); have a1 := cellKeep hb3 (newCell1 wz); have fa0 := ((bcell hb3).2 _ 0 (newLt wz)).trans (newFr wz 0); have fa1 := ((bcell hb3).2 _ 1 (newLt wz)).trans (newFr wz 1)) | skip)))
    all_goals
      first
      | (obtain ⟨W8, hW8⟩ : ∃ W8 : World, W8 = w3.alloc (.cells #[.string ⟨ml.toArray⟩, .string ⟨mr'.toArray⟩] 84) := ⟨_, rfl⟩
         obtain ⟨g7, hg7⟩ : ∃ g7, g7 = w3.heap.size := ⟨_, rfl⟩
         have y0 : W8.cell? ⟨g7, 0, none⟩ = some (.string ⟨ml.toArray⟩) := by rw [hW8, hg7]; simp [go_sem]
         have y1 : W8.cell? ⟨g7, 1, none⟩ = some (.string ⟨mr'.toArray⟩) := by rw [hW8, hg7]; simp [go_sem]
         have HB8 := Lib.hid (show Below wz.heap.size wz W8 by rw [hW8]; have h8 := below_then (a := wz) ((Below.refl _ _).drew) hb3; exact h8.alloc h8.size _)
         rw [← hW8, ← hg7]
         clear hW8 hg7)
      | (obtain ⟨W8, hW8⟩ : ∃ W8 : World, W8 = (w3.setCell ⟨wz.heap.size, 0, none⟩ (.string ⟨ml.toArray⟩)).setCell ⟨wz.heap.size, 1, none⟩ (.string ⟨mr'.toArray⟩) := ⟨_, rfl⟩
         obtain ⟨g7, hg7⟩ : ∃ g7, g7 = wz.heap.size := ⟨_, rfl⟩
         have y0 : W8.cell? ⟨g7, 0, none⟩ = some (.string ⟨ml.toArray⟩) := by rw [hW8, hg7]; exact (cell_set_ne _ (Or.inr (by decide))).trans (cell_set_eq _ a0)
         have y1 : W8.cell? ⟨g7, 1, none⟩ = some (.string ⟨mr'.toArray⟩) := by rw [hW8, hg7]; exact cell_two' a1 _ _
         have HB8 := Lib.hid (show Below wz.heap.size wz W8 by rw [hW8]; have h8 := below_then (a := wz) (((Below.refl _ _).alloc (Nat.le_refl _) zeroRule).drew) hb3; exact (h8.setCell (Nat.le_refl _) _).setCell (Nat.le_refl _) _)
         rw [← hW8, ← hg7]
         clear hW8 hg7 a0 a1 fa0 fa1)
      have HQ8 := Lib.hid (HQZ.out.below HB8.out)
      clear z0 z1 z2 e0 e1 e2 n0 n1 n2 m0 m1 m2 hb3
      have o1 := HQ8.out.o1
      have HQ9 := Lib.hid (fun ob => HQ8.out.below ((Below.refl _ _).alloc (Nat.le_refl _) ob))
      go_wp2_with (at_builtin; refine push_law_h rfl _ _ rfl slRule rfl (HQ9.out _).own (us := [.string ⟨ml.toArray⟩, .string ⟨mr'.toArray⟩]) rfl rfl (by simp [Value.oneCell']) (heap_alloc_new W8 _) (HQ9.out _).base (by omega) ?_; intro A5 c5 w5 hown5 hg5; have o5 := (HQ9.out _).o1g hg5; have f5 := (HQ9.out _).fog hg5)
      go_roundw
      case rel => exact ⟨i + 1, A5, c5, by omega, by go_num, (HQ9.out _).push hg5 (by rw [HT.out]; exact hown5)⟩
      case measure => simp [intOf] <;> omega


end Go.Proofs.Ytlohpphmamapeaa
