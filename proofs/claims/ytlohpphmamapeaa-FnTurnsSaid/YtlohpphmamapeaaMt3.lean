/-
  Contracts and plain laws for the functions of this seat (texts joined: PairsI PairsS Off RegU Start Copy NewEqs InsQ Tail TurnQ TurnJ Clone TurnR1 Normal).
  Conditions: each text says its own.
-/
import Derived.Deep.RegionHeld3
import Derived.Deep.Upon
import Derived.OrdersHeld
import Derived.StillTail
import Derived.Deep.RegionHeld
import Derived.Deep.DrawnRows
import Derived.Lib.SliceRun
import Derived.Test.YtlohpphmamapeaaMt1
import Derived.Test.YtlohpphmamapeaaMt2
/-
  The contract of the program's pairs.
  Conditions: a system that is ok.
-/
namespace Go.Proofs.Ytlohpphmamapeaa
open Go.RowKit
set_option linter.unusedVariables false
set_option linter.unusedSimpArgs false

/-- A box of a rule. -/
def Boxed (w : World) (g : Nat) (rl rr : List UInt8) : Prop := w.ownsRow 0 84 2 (.slice (some ⟨g, 0, none⟩) 1 1) 1 [.string ⟨rl.toArray⟩, .string ⟨rr.toArray⟩]
theorem boxed_new (w : World) (rl rr : List UInt8) : Boxed (w.alloc (.cells #[.string ⟨rl.toArray⟩, .string ⟨rr.toArray⟩] 84)) w.heap.size rl rr := by
  have h := World.ownsRow_lit (e := 84) (size := 2) (base := 0) w #[.string ⟨rl.toArray⟩, .string ⟨rr.toArray⟩] 1 (Nat.zero_le _) (by simp [maxLen]) (by simp)
  exact h
theorem Boxed.cell {w : World} {g : Nat} {rl rr : List UInt8} (h : Boxed w g rl rr) : w.cell? ⟨g, 0, none⟩ = some (.string ⟨rl.toArray⟩) := by
  have h1 := World.ownsRow.cells h (g := g) rfl 0 _ rfl
  simpa [Addr.add] using h1
theorem Boxed.below {w w' : World} {g : Nat} {rl rr : List UInt8} (h : Boxed w g rl rr) (hb : Below w.heap.size w w') : Boxed w' g rl rr := own_below h hb
theorem Boxed.kept {w w1 w' : World} {g base size n : Nat} {rl rr : List UInt8} {v : Value} {xs : List Value} (h : Boxed w g rl rr) (ho : w.ownsRow base 131 size v n xs) (hb : Below w.heap.size w w1) (hg : w1.grownBy w' v.ownBlock) : Boxed w' g rl rr :=
  (own_below h hb).kept hg (own_apart h ho (by decide))
theorem ints_kept {w w1 w' : World} {base size n m b0 : Nat} {u v : Value} {xs ys : List Value} (h : w.ownsRow b0 3 1 u m ys) (ho : w.ownsRow base 131 size v n xs) (hb : Below w.heap.size w w1) (hg : w1.grownBy w' v.ownBlock) : w'.ownsRow b0 3 1 u m ys :=
  (own_below h hb).kept hg (own_apart h ho (by decide))
def M.insTo (i j : Nat) (f : Int → M.Pair) (ps : List Int) (q : Nat) : List M.Pair := if i = j then [] else (ps.take q).map f
theorem M.insTo_zero (i j : Nat) (f : Int → M.Pair) (ps : List Int) : M.insTo i j f ps 0 = [] := by simp [M.insTo]
theorem M.insTo_ne {i j : Nat} (h : i ≠ j) (f : Int → M.Pair) {ps : List Int} {q : Nat} (hq : q < ps.length) : M.insTo i j f ps (q + 1) = M.insTo i j f ps q ++ [f ps[q]] := by
  unfold M.insTo
  rw [if_neg h, if_neg h, List.take_succ_eq_append_getElem hq, List.map_append]
  rfl
theorem M.insTo_eq (j : Nat) (f : Int → M.Pair) (ps : List Int) (q : Nat) : M.insTo j j f ps q = [] := by simp [M.insTo]
theorem M.insTo_len (i j : Nat) (f : Int → M.Pair) (ps : List Int) (q : Nat) : (M.insTo i j f ps q).length ≤ ps.length := by
  unfold M.insTo
  split
  · simp
  · simp; omega
def M.acTo (f : Int → M.Pair) (ps : List Int) (q : Nat) : List M.Pair := (ps.take q).map f
theorem M.acTo_zero (f : Int → M.Pair) (ps : List Int) : M.acTo f ps 0 = [] := by simp [M.acTo]
theorem M.acTo_add (f : Int → M.Pair) {ps : List Int} {q : Nat} (hq : q < ps.length) : M.acTo f ps (q + 1) = M.acTo f ps q ++ [f ps[q]] := by
  unfold M.acTo
  rw [List.take_succ_eq_append_getElem hq, List.map_append]
  rfl
theorem M.acTo_len (f : Int → M.Pair) (ps : List Int) (q : Nat) : (M.acTo f ps q).length ≤ ps.length := by
  unfold M.acTo
  simp; omega
theorem ins_all {rs : List M.Rule} {i j : Nat} : M.insTo i j (M.inPair rs i j) (M.PlacesOf (M.lft rs i) (M.lft rs j)) (M.PlacesOf (M.lft rs i) (M.lft rs j)).length = M.inside rs i j := by simp [M.insTo, M.inside]
theorem ac_all {rs : List M.Rule} {i j : Nat} : M.acTo (M.acPair rs i j) (M.OverlapsOf (M.lft rs i) (M.lft rs j)) (M.OverlapsOf (M.lft rs i) (M.lft rs j)).length = M.across rs i j := by simp [M.acTo, M.across]
theorem upTo_len {rs : List M.Rule} (h8 : ∀ i, (M.lft rs i).length ≤ 8) (hn : rs.length ≤ 12) {i j : Nat} (hi : i ≤ rs.length) (hj : j ≤ rs.length) : (M.pairTo rs i ++ M.pairRow rs i j).length ≤ 13000 := by
  have h1 := to_len8 h8 hn i
  have h2 := row_len8 h8 i j
  rw [List.length_append]
  omega
theorem step_push {P : Program} {ops : Array Oper} {o : Oper} {a : Act} {K : Act → World → Prop} {Q : Exit → Act → World → Prop} {E : Prop} {w0 W : World} (hgd : o.guard = none) (s x : Operand) {t : TypeId} (ho : o.op = .call { callee := .builtin .append, args := #[s, x], argTypes := #[t, t] }) {e : TypeId} {size : Nat} (T : SlT P t e size)
    {base : Nat} {A : Option Addr} {n c : Nat} {xs : List Value} (hs : a.eval s = .slice A n c) (hown : W.ownsRow base e size (.slice A n c) n xs) {us : List Value} {g : Nat} (hx : a.eval x = .slice (some ⟨g, 0, none⟩) 1 1)
    (hus : us.length = size) (h1 : ∀ u ∈ us, u.oneCell' = true) (hblk : W.heap[g]? = some (.cells us.toArray e (0, 0))) (hb : Below base w0 W) (hw0 : base = w0.heap.size) (hn : n < 1099511627776)
    (h : ∀ A' c' w', w'.ownsRow base e size (.slice A' (n + 1) c') (n + 1) (xs ++ us) → Below base w0 w' → W.grownBy w' (Value.slice A n c).ownBlock → K (a.put o.dst (.slice A' (n + 1) c')) w') :
    if Region.wanted o (yielded ops a.tmps) = true then Oper.wp P o a W K Q else E := by
  obtain ⟨i, z, hi, hz, hsz, hby, hzs⟩ := T.info
  have hbw : base ≤ W.heap.size := by rw [hw0]; exact hb.size
  have hw : Region.wanted o (yielded ops a.tmps) = true := by simp [Region.wanted, hgd]
  rw [if_pos hw]
  refine wp_append_own W s x t ho base e i z size i.bytes T.und hi hz hsz rfl hzs T.pos (.slice A n c) n xs hs hown ⟨g, 0, none⟩ 1 1 us hx (by simpa using hus) (fun j u hu => ?_) h1 (by simp only [maxLen]; omega) ?_ hbw ?_
  · have ha : (⟨g, 0, none⟩ : Addr).add j = ⟨g, j, none⟩ := by unfold Addr.add; split <;> simp_all
    rw [ha, cell_of_row W g j us.toArray e (0, 0) hblk]
    simpa using hu
  · have : (n + 1) * i.bytes ≤ 1099511627776 * 64 := Nat.mul_le_mul (by omega) hby
    omega
  · intro v' w' hown' hg _
    obtain ⟨A', c', rfl⟩ := own_slice hown'
    exact h A' c' w' hown' (hb.grown hg hbw (fun k hk => (hown.lt k hk).1)) hg
theorem far_of {w : World} {base size n g : Nat} {rl rr : List UInt8} {v : Value} {xs : List Value} (h : Boxed w g rl rr) (ho : w.ownsRow base 131 size v n xs) : some g ≠ v.ownBlock := by
  have h1 := own_apart h ho (by decide)
  simpa [Value.ownBlock] using h1
theorem far_new {w : World} {base size n : Nat} {v : Value} {xs : List Value} (ho : w.ownsRow base 131 size v n xs) : some w.heap.size ≠ v.ownBlock := fun h => by
  have h1 := (ho.lt _ h.symm).2
  omega
theorem own_intAt {w : World} {base n c : Nat} {A : Option Addr} {ps : List Int} (h : w.ownsRow base 3 1 (.slice A n c) n (ints ps)) {q : Nat} (hq : q < n) : ∃ b o, A = some ⟨b, o, none⟩ ∧ ∃ hz : q < ps.length, w.cell? ⟨b, o + q, none⟩ = some (.int .i64 ps[q]) := (Rd.of_own h).intAt hq
set_option maxRecDepth 100000 in
set_option maxHeartbeats 8000000 in
theorem pairs_c (k : Int) (A : Option Addr) (c : Nat) (rs : List M.Rule) (w : World) (hA : Rd w 2 A rs.length (ruls rs)) (h12 : rs.length ≤ 12) (h8 : ∀ i, (M.lft rs i).length ≤ 8) :
    Calls Try.prog 104 #[.agg #[.int .i64 k, .slice A rs.length c]] w (RetOwn (fun A c => .slice A (M.pairTo rs rs.length).length c) 131 5 (M.pairTo rs rs.length).length (pairs_ (M.pairTo rs rs.length)) w) := by
  have HA := Lib.hid hA
  have HLB := Lib.hid (fun (i j : Nat) (hi : i ≤ rs.length) (hj : j ≤ rs.length) => upTo_len h8 h12 hi hj)
  have H8 := Lib.hid h8
  clear hA h8
  obtain ⟨zs, hzs⟩ : ∃ zs, zs = M.pairTo rs rs.length := ⟨_, rfl⟩
  have HZ := Lib.hid hzs
  rw [← hzs]
  clear hzs
  obtain ⟨m, hm⟩ : ∃ m, m = rs.length := ⟨_, rfl⟩
  have HM := Lib.hid hm
  rw [← hm] at h12 HA HLB ⊢
  clear hm
  go_enter Try.func104, Try.ntmps104
  go_wp2_with fail
  obtain ⟨w1, hw1⟩ : ∃ w1 : World, w1 = w.alloc (.cells #[.int .i64 k, .slice A m c] 28) := ⟨_, rfl⟩
  have D1 := Lib.hid (show w1.cell? ⟨w.heap.size, 1, none⟩ = some (.slice A m c) by rw [hw1]; simp [go_sem])
  have HB0 := Lib.hid (show Below w.heap.size w w1 by rw [hw1]; exact (Below.refl _ _).alloc (Nat.le_refl _) _)
  have HA1 := Lib.hid (HA.out.below HB0.out)
  have d1 := D1.out
  rw [← hw1]
  clear hw1
  go_wp2_with fail
  clear d1
  go_loopw [3, 16] (fun s z wr => ∃ (i : Nat) (A' : Option Addr) (m' c' : Nat), i ≤ m ∧ z = .int .i64 i ∧ s = .slice A' m' c' ∧ m' = (M.pairTo rs i ++ M.pairRow rs i 0).length ∧ wr.ownsRow w1.heap.size 131 5 (.slice A' m' c') m' (pairs_ (M.pairTo rs i ++ M.pairRow rs i 0)) ∧ Below w1.heap.size w1 wr) (fun _ z _ => m - (intOf z).toNat)
  case atStart => exact ⟨0, none, 0, 0, by omega, rfl, rfl, rfl, World.ownsRow_nil _ _ _ _, Below.refl _ _⟩
  case round =>
    obtain ⟨i, A', m', c', hi, rfl, rfl, hm', hown, hb⟩ := hrel
    have HN := Lib.hid hm'
    have HO := Lib.hid hown
    have HB := Lib.hid hb
    clear hm' hown hb
    by_cases hlt : i < m
    case neg =>
      obtain rfl : i = m := by omega
      have HE := Lib.hid (show M.pairTo rs i ++ M.pairRow rs i 0 = zs by rw [HZ.out, HM.out]; simp [M.pairRow])
      go_wp2
      go_ret
      exact ⟨A', c', by rw [← HE.out, ← HN.out]; rfl, by rw [← HE.out, ← HN.out]; exact own_base HO.out HB0.out.size, HB0.out.trans (HB.out.mono HB0.out.size)⟩
    case pos =>
    obtain ⟨b, o, hA0, hz, hc1, hc2⟩ := (HA1.out.below HB.out).ruleAt (k := i) hlt
    subst hA0
    have HLF := Lib.hid (lft_at hz)
    generalize rs[i] = r at *
    obtain ⟨rl, rr⟩ := r
    simp only at hc1 hc2 HLF
    have hrl : rl.length ≤ 8 := by have h1 := H8.out i; rw [HLF.out] at h1; exact h1
    obtain ⟨wo, hwo⟩ : ∃ wo : World, wo = wr := ⟨_, rfl⟩
    rw [← hwo] at HO HB hc1 hc2 ⊢
    clear hwo
    have d1 : ∀ ob : Obj, (wo.alloc ob).cell? ⟨w.heap.size, 1, none⟩ = some (.slice (some ⟨b, o, none⟩) m c) := fun ob => allocKeep1 (cellKeep HB.out D1.out) ob
    go_wp2_with fail
    clear d1
    obtain ⟨g, hg⟩ : ∃ g, g = wo.heap.size := ⟨_, rfl⟩
    rw [← hg]
    obtain ⟨w2, hw2⟩ : ∃ w2 : World, w2 = wo.alloc (.cells #[.string ⟨rl.toArray⟩, .string ⟨rr.toArray⟩] 84) := ⟨_, rfl⟩
    rw [← hw2]
    have HX2 := Lib.hid (show Boxed w2 g rl rr by rw [hw2, hg]; exact boxed_new wo rl rr)
    have HO2 := Lib.hid (show w2.ownsRow w1.heap.size 131 5 (.slice A' m' c') m' (pairs_ (M.pairTo rs i ++ M.pairRow rs i 0)) by rw [hw2]; exact HO.out.alloc _)
    have HB2 := Lib.hid (show Below w1.heap.size w1 w2 by rw [hw2]; exact HB.out.alloc HB.out.size _)
    clear hw2 hg HO HB hc1 hc2
    go_loopw [3, 24] (fun s z wr => ∃ (j : Nat) (A' : Option Addr) (m' c' : Nat), j ≤ m ∧ z = .int .i64 j ∧ s = .slice A' m' c' ∧ m' = (M.pairTo rs i ++ M.pairRow rs i j).length ∧ wr.ownsRow w1.heap.size 131 5 (.slice A' m' c') m' (pairs_ (M.pairTo rs i ++ M.pairRow rs i j)) ∧ Below w1.heap.size w1 wr ∧ Boxed wr g rl rr) (fun _ z _ => m - (intOf z).toNat)
    case atStart => exact ⟨0, A', m', c', by omega, rfl, rfl, HN.out, HO2.out, HB2.out, HX2.out⟩
    case round =>
      clear HO2 HB2 HX2 HN
      obtain ⟨j, A2, m2, c2, hj, rfl, rfl, hm2, hown, hb, hx⟩ := hrel
      have HN := Lib.hid hm2
      have HO := Lib.hid hown
      have HB := Lib.hid hb
      have HX := Lib.hid hx
      clear hm2 hown hb hx
      by_cases hjm : j < m
      case neg =>
        obtain rfl : j = m := by omega
        have HE := Lib.hid (show M.pairTo rs (i + 1) ++ M.pairRow rs (i + 1) 0 = M.pairTo rs i ++ M.pairRow rs i j by rw [HM.out]; simp [M.pairRow, M.pairTo])
        go_wp2
        go_roundw
        case rel => exact ⟨i + 1, A2, m2, c2, by omega, by go_num, rfl, by rw [HE.out]; exact HN.out, by rw [HE.out]; exact HO.out, HB.out⟩
        case measure => simp [intOf] <;> omega
      case pos =>
      obtain ⟨b', o', e1, hzj, hc1, hc2⟩ := (HA1.out.below HB.out).ruleAt (k := j) hjm
      injection e1 with e1
      injection e1 with e1 e2
      subst e1 e2
      have HLG := Lib.hid (lft_at hzj)
      generalize rs[j] = r at *
      obtain ⟨ql, qr⟩ := r
      simp only at hc1 hc2 HLG
      have hql : ql.length ≤ 8 := by have h1 := H8.out j; rw [HLG.out] at h1; exact h1
      have hnb : m2 ≤ 13000 := by rw [HN.out]; exact HLB.out _ _ hi (Nat.le_of_lt hjm)
      obtain ⟨P0, hP0⟩ : ∃ P0, P0 = M.pairTo rs i ++ M.pairRow rs i j := ⟨_, rfl⟩
      obtain ⟨f, hf⟩ : ∃ f, f = M.inPair rs i j := ⟨_, rfl⟩
      obtain ⟨f', hf'⟩ : ∃ f', f' = M.acPair rs i j := ⟨_, rfl⟩
      obtain ⟨ps, hps⟩ : ∃ ps, ps = M.PlacesOf rl ql := ⟨_, rfl⟩
      obtain ⟨ps', hps'⟩ : ∃ ps', ps' = M.OverlapsOf rl ql := ⟨_, rfl⟩
      have HF := Lib.hid (show ∀ p, f p = ⟨rl, i, 0, j, p⟩ from fun p => by rw [hf, M.inPair, HLF.out])
      have HF' := Lib.hid (show ∀ p, f' p = ⟨rl ++ ql.drop p.toNat, i, 0, j, rl.length - p⟩ from fun p => by rw [hf', M.acPair, HLF.out, HLG.out])
      have HNX := Lib.hid (show M.pairTo rs i ++ M.pairRow rs i (j + 1) = P0 ++ M.insTo i j f ps ps.length ++ M.acTo f' ps' ps'.length by
        rw [M.pairRow, ← ins_all, ← ac_all, HLF.out, HLG.out, ← hf, ← hf', ← hps, ← hps', hP0]; simp)
      have hpl : ps.length ≤ 8 := by rw [hps]; exact Nat.le_trans (places_len _ _) hrl
      have hpl' : ps'.length ≤ 8 := by rw [hps']; exact Nat.le_trans (overlaps_len _ _) hrl
      have HIN := Lib.hid (fun z (h : z ∈ ps) => places_mem (u := rl) (v := ql) (hps ▸ h))
      have HIN' := Lib.hid (fun z (h : z ∈ ps') => overlaps_mem (u := rl) (v := ql) (hps' ▸ h))
      have HC := Lib.hid (fun W => hps ▸ impl_PlacesOf_c rl ql W (by omega) (by omega))
      have HC' := Lib.hid (fun W => hps' ▸ impl_OverlapsOf_c rl ql W (by omega) (by omega))
      rw [← hP0] at HN HO
      clear hP0 hf hf' hps hps'
      obtain ⟨n, hn⟩ : ∃ n, n = ps.length := ⟨_, rfl⟩
      obtain ⟨n', hn'⟩ : ∃ n', n' = ps'.length := ⟨_, rfl⟩
      have HPN := Lib.hid hn
      have HPN' := Lib.hid hn'
      have HIL := Lib.hid (fun q => M.insTo_len i j f ps q)
      have HAL := Lib.hid (fun q => M.acTo_len f' ps' q)
      rw [← hn] at hpl HC HNX HIL
      rw [← hn'] at hpl' HC' HNX HAL
      clear hn hn'
      have d1 : ∀ o : Obj, (wr.alloc o).cell? ⟨g, 0, none⟩ = some (.string ⟨rl.toArray⟩) := fun o => allocKeep1 HX.out.cell o
      go_wp2_with fail
      refine (HC.out _).mono ?_
      rintro e w3 ⟨A3, c3, rfl, hown, hb⟩
      clear d1 hc1 hc2
      obtain ⟨g2, hg2⟩ : ∃ g2, g2 = wr.heap.size := ⟨_, rfl⟩
      rw [← hg2]
      have HX3 := Lib.hid (HX.out.below (below_alloc1 hb))
      have HY3 := Lib.hid (show Boxed w3 g2 ql qr by rw [hg2]; exact (boxed_new wr ql qr).below hb)
      have HO3 := Lib.hid (own_below HO.out (below_alloc1 hb))
      have HB3 := Lib.hid (HB.out.trans ((below_alloc1 hb).mono HB.out.size))
      have HI3 := Lib.hid (own_base hown (Nat.zero_le _))
      clear hb hown hg2 HX HO HB
      go_wp2_with fail
      go_loopw [3, 35] (fun s z wr => ∃ (q : Nat) (A' : Option Addr) (m' c' : Nat), q ≤ n ∧ z = .int .i64 q ∧ s = .slice A' m' c' ∧ m' = (P0 ++ M.insTo i j f ps q).length ∧ wr.ownsRow w1.heap.size 131 5 (.slice A' m' c') m' (pairs_ (P0 ++ M.insTo i j f ps q)) ∧ Below w1.heap.size w1 wr ∧ Boxed wr g rl rr ∧ Boxed wr g2 ql qr ∧ wr.ownsRow 0 3 1 (.slice A3 n c3) n (ints ps)) (fun _ z _ => n - (intOf z).toNat)
      case atStart => exact ⟨0, A2, m2, c2, by omega, rfl, rfl, by rw [M.insTo_zero, List.append_nil]; exact HN.out, by rw [M.insTo_zero, List.append_nil]; exact HO3.out, HB3.out, HX3.out, HY3.out, HI3.out⟩
      case round =>
        clear HX3 HY3 HO3 HB3 HI3
        obtain ⟨q, A4, m4, c4, hq, rfl, rfl, hm4, hown, hb, hx, hy, hii⟩ := hrel
        have HN4 := Lib.hid hm4
        have HO := Lib.hid hown
        have HB := Lib.hid hb
        have HX := Lib.hid hx
        have HY := Lib.hid hy
        have HI := Lib.hid hii
        have hnb4 : m4 ≤ 13008 := by have h1 := HIL.out q; have h2 := HN.out; rw [hm4, List.length_append]; omega
        clear hm4 hown hb hx hy hii
        by_cases hqn : q < n
        case pos =>
          obtain ⟨a1, o1, hA3, hzq, hv⟩ := own_intAt HI.out hqn
          subst hA3
          obtain ⟨z, hzz, hzb⟩ := HIN.out ps[q] (List.getElem_mem hzq)
          by_cases hij : i = j
          case pos =>
            subst hij
            have HE := Lib.hid (show M.insTo i i f ps (q + 1) = M.insTo i i f ps q by rw [M.insTo_eq, M.insTo_eq])
            rw [hzz] at hv
            clear hzz
            have hij' : ((i : Int) != (i : Int)) = false := by simp
            go_wp2_with fail
            go_roundw
            case rel => exact ⟨q + 1, A4, m4, c4, by omega, by go_num, rfl, by rw [HE.out]; exact HN4.out, by rw [HE.out]; exact HO.out, HB.out, HX.out, HY.out, HI.out⟩
            case measure => simp [intOf] <;> omega
          case neg =>
            have HE := Lib.hid (M.insTo_ne hij f hzq)
            have HFZ := Lib.hid (HF.out ps[q])
            rw [hzz] at HE HFZ hv
            generalize f (z : Int) = fz at *
            clear hzz
            have hij' : ((i : Int) != (j : Int)) = true := by simp; omega
            have dx := HX.out.cell
            go_wp2_with (at_builtin; refine push_law_g rfl _ _ rfl slPair rfl HO.out (us := [.string ⟨rl.toArray⟩, .int .i64 i, .int .i64 0, .int .i64 j, .int .i64 z]) rfl rfl (by simp [Value.oneCell']) HB.out rfl (by omega) ?_; intro A5 c5 w5 hown5 hb5 hg5)
            go_roundw
            case rel =>
              have HBA := Lib.hid ((Below.refl wr.heap.size wr).alloc (Nat.le_refl _) (.cells #[.string ⟨rl.toArray⟩, .int .i64 i, .int .i64 0, .int .i64 j, .int .i64 z] 131))
              exact ⟨q + 1, A5, m4 + 1, c5, by omega, by go_num, rfl, by rw [HE.out, ← List.append_assoc, List.length_append, ← HN4.out]; rfl, by rw [HE.out, ← List.append_assoc, pairs_add, HFZ.out]; exact hown5, hb5, HX.out.kept HO.out HBA.out hg5, HY.out.kept HO.out HBA.out hg5, ints_kept HI.out HO.out HBA.out hg5⟩
            case measure => simp [intOf] <;> omega
        case neg =>
          obtain rfl : q = n := by omega
          clear HI
          obtain ⟨P1, hP1⟩ : ∃ P1, P1 = P0 ++ M.insTo i j f ps q := ⟨_, rfl⟩
          rw [← hP1] at HN4 HO HNX
          have HQ1 := Lib.hid hP1
          clear hP1
          have dx := HX.out.cell
          have dy := HY.out.cell
          go_wp2_with fail
          refine (HC'.out _).mono ?_
          rintro e w5 ⟨A5, c5, rfl, hown, hb⟩
          have HX5 := Lib.hid (HX.out.below hb)
          have HY5 := Lib.hid (HY.out.below hb)
          have HO5 := Lib.hid (own_below HO.out hb)
          have HB5 := Lib.hid (HB.out.trans (hb.mono HB.out.size))
          have HI5 := Lib.hid (own_base hown (Nat.zero_le _))
          clear dx dy hb hown HX HY HO HB
          go_wp2_with fail
          go_loopw [3, 60] (fun s z wr => ∃ (q : Nat) (A' : Option Addr) (m' c' : Nat), q ≤ n' ∧ z = .int .i64 q ∧ s = .slice A' m' c' ∧ m' = (P1 ++ M.acTo f' ps' q).length ∧ wr.ownsRow w1.heap.size 131 5 (.slice A' m' c') m' (pairs_ (P1 ++ M.acTo f' ps' q)) ∧ Below w1.heap.size w1 wr ∧ Boxed wr g rl rr ∧ Boxed wr g2 ql qr ∧ wr.ownsRow 0 3 1 (.slice A5 n' c5) n' (ints ps')) (fun _ z _ => n' - (intOf z).toNat)
          case atStart => exact ⟨0, A4, m4, c4, by omega, rfl, rfl, by rw [M.acTo_zero, List.append_nil]; exact HN4.out, by rw [M.acTo_zero, List.append_nil]; exact HO5.out, HB5.out, HX5.out, HY5.out, HI5.out⟩
          case round =>
            clear HX5 HY5 HO5 HB5 HI5
            obtain ⟨p, A6, m6, c6, hp, rfl, rfl, hm6, hown, hb, hx, hy, hii⟩ := hrel
            have HN6 := Lib.hid hm6
            have HO := Lib.hid hown
            have HB := Lib.hid hb
            have HX := Lib.hid hx
            have HY := Lib.hid hy
            have HI := Lib.hid hii
            have hnb6 : m6 ≤ 13016 := by have h1 := HAL.out p; have h2 := HN4.out; rw [hm6, List.length_append]; omega
            clear hm6 hown hb hx hy hii
            by_cases hpn : p < n'
            case neg =>
              obtain rfl : p = n' := by omega
              go_wp2_with fail
              go_roundw
              case rel => exact ⟨j + 1, A6, m6, c6, by omega, by go_num, rfl, by rw [HNX.out]; exact HN6.out, by rw [HNX.out]; exact HO.out, HB.out, HX.out⟩
              case measure => simp [intOf] <;> omega
            case pos =>
              obtain ⟨a1, o1, hA5, hzp, hv⟩ := own_intAt HI.out hpn
              subst hA5
              obtain ⟨z, hzz, hzb, hzc⟩ := HIN'.out ps'[p] (List.getElem_mem hzp)
              have HE := Lib.hid (M.acTo_add f' hzp)
              have HFZ := Lib.hid (HF'.out ps'[p])
              rw [hzz] at HE HFZ hv
              generalize f' (z : Int) = fz at *
              clear hzz
              have hsub : (rl.length : Int) - (z : Int) = ((rl.length - z : Nat) : Int) := by omega
              have dx : ∀ o : Obj, (wr.alloc o).cell? ⟨g, 0, none⟩ = some (.string ⟨rl.toArray⟩) := fun o => allocKeep1 HX.out.cell o
              have dy : ∀ o : Obj, (wr.alloc o).cell? ⟨g2, 0, none⟩ = some (.string ⟨ql.toArray⟩) := fun o => allocKeep1 HY.out.cell o
              have dx0 := HX.out.cell
              go_wp2_with fail
              obtain ⟨wz, hwz⟩ : ∃ wz : World, wz = (wr.alloc (.cells #[.int .i64 j, .int .i64 ((rl.length - z : Nat) : Int)] 129)) := ⟨_, rfl⟩
              have z0 : wz.cell? ⟨wr.heap.size, 0, none⟩ = some (.int .i64 j) := by rw [hwz]; simp [go_sem]
              have z1 : wz.cell? ⟨wr.heap.size, 1, none⟩ = some (.int .i64 ((rl.length - z : Nat) : Int)) := by rw [hwz]; simp [go_sem]
              have z2 : wz.cell? ⟨g, 0, none⟩ = some (.string ⟨rl.toArray⟩) := by rw [hwz]; exact dx _
              have z3 : wz.cell? ⟨g2, 0, none⟩ = some (.string ⟨ql.toArray⟩) := by rw [hwz]; exact dy _
              rw [← hwz]
              have HWZ := Lib.hid hwz
              clear dx dy dx0 hwz
              have hcat : ¬ (9223372036854775807 < rl.length + (ql.length - z)) := by omega
              have ag := far_of HX.out HO.out
              have ag2 := far_of HY.out HO.out
              have an := far_new HO.out
              have HBZ := Lib.hid (show Below wr.heap.size wr wz by rw [HWZ.out]; exact (Below.refl _ _).alloc (Nat.le_refl _) _)
              have HOZ := Lib.hid (own_below HO.out HBZ.out)
              have HBW := Lib.hid (HB.out.trans (HBZ.out.mono HB.out.size))
              clear hv
              go_region_held3 (fun w' => w'.cell? ⟨wr.heap.size, 0, none⟩ = some (.int .i64 j) ∧ w'.cell? ⟨wr.heap.size, 1, none⟩ = some (.int .i64 ((rl.length - z : Nat) : Int)) ∧ w'.cell? ⟨g, 0, none⟩ = some (.string ⟨rl.toArray⟩) ∧ w'.cell? ⟨g2, 0, none⟩ = some (.string ⟨ql.toArray⟩))
                (first | go_keep | (go_split_ands; exact ⟨cellGrown hg7 (by assumption) an, cellGrown hg7 (by assumption) an, cellGrown hg7 (by assumption) ag, cellGrown hg7 (by assumption) ag2⟩))
                ((refine step_push rfl _ _ rfl slPair rfl (own_below HOZ.out (by repeat (first | exact Below.refl _ _ | refine Below.drew ?_ | refine Below.alloc ?_ (by simp <;> omega) _))) (us := [.string ⟨(rl ++ ql.drop z).toArray⟩, .int .i64 i, .int .i64 0, .int .i64 j, .int .i64 ((rl.length - z : Nat) : Int)]) rfl rfl (by simp [Value.oneCell']) (heap_alloc_new wz _) (HBW.out.trans ((show Below wz.heap.size wz _ from (by repeat (first | exact Below.refl _ _ | refine Below.drew ?_ | refine Below.alloc ?_ (by simp <;> omega) _))).mono HBW.out.size)) rfl (by omega) ?_; intro A7 c7 w7 hown7 hb7 hg7))
              all_goals
                clear z0 z1 z2 z3
                go_wp2_with fail
                go_roundw
                case rel =>
                  exact ⟨p + 1, A7, m6 + 1, c7, by omega, by go_num, rfl, by rw [HE.out, ← List.append_assoc, List.length_append, ← HN6.out]; rfl, by rw [HE.out, ← List.append_assoc, pairs_add, HFZ.out, hsub]; exact hown7, hb7, HX.out.kept HO.out (by rw [HWZ.out]; repeat (first | exact Below.refl _ _ | refine Below.drew ?_ | refine Below.alloc ?_ (by simp <;> omega) _)) hg7, HY.out.kept HO.out (by rw [HWZ.out]; repeat (first | exact Below.refl _ _ | refine Below.drew ?_ | refine Below.alloc ?_ (by simp <;> omega) _)) hg7, ints_kept HI.out HO.out (by rw [HWZ.out]; repeat (first | exact Below.refl _ _ | refine Below.drew ?_ | refine Below.alloc ?_ (by simp <;> omega) _)) hg7⟩
                case measure => simp [intOf] <;> omega

end Go.Proofs.Ytlohpphmamapeaa
/-
  The contracts of PairsOf.
  Conditions: a system that is ok.
-/
namespace Go.Proofs.Ytlohpphmamapeaa
open Go.RowKit
set_option linter.unusedVariables false
set_option linter.unusedSimpArgs false

set_option maxRecDepth 100000 in
set_option maxHeartbeats 4000000 in
theorem spec_PairsOf_c (k : Int) (A : Option Addr) (c : Nat) (rs : List M.Rule) (w : World) (hA : Rd w 2 A rs.length (ruls rs)) (hl : rs.length ≤ 1048576) (hs : ∀ r ∈ rs, r.left.length ≤ 1048576 ∧ r.right.length ≤ 1048576) :
    Calls Try.prog 147 #[.agg #[.int .i64 k, .slice A rs.length c]] w (RetOwn (fun A c => .slice A (M.PairsOf k rs).length c) 131 5 (M.PairsOf k rs).length (pairs_ (M.PairsOf k rs)) w) := by
  have HA := Lib.hid hA
  have h1 := Lib.hid (fun W hA => spec_SystemOk_c k A c rs W hA hl hs)
  have HP := Lib.hid (fun (o : Obj) => (Below.refl w.heap.size w).alloc (Nat.le_refl _) o)
  unfold M.PairsOf
  by_cases hok : M.SystemOk k rs = true
  case neg =>
    rw [if_neg hok]
    have hok' : M.SystemOk k rs = false := by simpa using hok
    rw [hok'] at h1
    clear hA hok hok' hs
    go_enter Try.func147, Try.ntmps147
    go_wp2_with fail
    refine (h1.out _ (HA.out.below (HP.out _))).mono ?_
    rintro e w1 ⟨rfl, hb⟩
    go_wp2_with fail
    go_ret
    exact ⟨none, 0, rfl, World.ownsRow_nil _ _ _ _, below_alloc1 hb⟩
  case pos =>
  rw [if_pos hok]
  have h12 := rulesLe hok
  have HIN := Lib.hid (fun i j W hA hi hj => inside_c k A c rs i j W hA hl hi hj (fun i => sides8 hok))
  have HAC := Lib.hid (fun i j W hA hi hj => across_c k A c rs i j W hA hl hi hj (fun i => sides8 hok))
  have HLB := Lib.hid (fun (i j : Nat) (hi : i ≤ rs.length) (hj : j ≤ rs.length) => upTo_len (fun i => sides8 hok) h12 hi hj)
  have HIL := Lib.hid (fun i j => inside_len (rs := rs) (fun i => sides8 hok) i j)
  have HCL := Lib.hid (fun i j => across_len (rs := rs) (fun i => sides8 hok) i j)
  rw [hok] at h1
  clear hA hok hs hl
  obtain ⟨zs, hzs⟩ : ∃ zs, zs = M.pairTo rs rs.length := ⟨_, rfl⟩
  have HZ := Lib.hid hzs
  rw [← hzs]
  clear hzs
  obtain ⟨m, hm⟩ : ∃ m, m = rs.length := ⟨_, rfl⟩
  have HM := Lib.hid hm
  rw [← hm] at h12 HA HLB HIN HAC h1 ⊢
  clear hm
  go_enter Try.func147, Try.ntmps147
  go_wp2_with fail
  refine (h1.out _ (HA.out.below (HP.out _))).mono ?_
  rintro e w1 ⟨rfl, hb⟩
  have D0 := Lib.hid (show w1.cell? ⟨w.heap.size, 0, none⟩ = some (.int .i64 k) from cellKeep hb (by simp [go_sem]))
  have D1 := Lib.hid (show w1.cell? ⟨w.heap.size, 1, none⟩ = some (.slice A m c) from cellKeep hb (by simp [go_sem]))
  have HB0 := Lib.hid (below_alloc1 hb)
  have HA1 := Lib.hid (HA.out.below HB0.out)
  clear hb
  have d1 := fun o => allocKeep1 D1.out o
  go_wp2_with fail
  clear d1
  go_loopw [3, 13] (fun s z wr => ∃ (i : Nat) (A' : Option Addr) (m' c' : Nat), i ≤ m ∧ z = .int .i64 i ∧ s = .slice A' m' c' ∧ m' = (M.pairTo rs i ++ M.pairRow rs i 0).length ∧ wr.ownsRow w1.heap.size 131 5 (.slice A' m' c') m' (pairs_ (M.pairTo rs i ++ M.pairRow rs i 0)) ∧ Below w1.heap.size w1 wr) (fun _ z _ => m - (intOf z).toNat)
  case atStart => exact ⟨0, _, 0, 0, by omega, rfl, rfl, rfl, by
    have h := World.ownsRow_lit (e := 131) (size := 5) w1 #[] 0 (Nat.le_refl _) (by simp [maxLen]) (by simp)
    simpa [M.pairTo, M.pairRow, pairs_] using h, (Below.refl _ _).alloc (Nat.le_refl _) _⟩
  case round =>
    obtain ⟨i, A', m', c', hi, rfl, rfl, hm', hown, hb⟩ := hrel
    have HN := Lib.hid hm'
    have HO := Lib.hid hown
    have HB := Lib.hid hb
    clear hm' hown hb
    by_cases hlt : i < m
    case neg =>
      obtain rfl : i = m := by omega
      have HE := Lib.hid (show M.pairTo rs i ++ M.pairRow rs i 0 = zs by rw [HZ.out, HM.out]; simp [M.pairRow])
      go_wp2
      go_ret
      exact ⟨A', c', by rw [← HE.out, ← HN.out]; rfl, by rw [← HE.out, ← HN.out]; exact own_base HO.out HB0.out.size, HB0.out.trans (HB.out.mono HB0.out.size)⟩
    case pos =>
    obtain ⟨wo, hwo⟩ : ∃ wo : World, wo = wr := ⟨_, rfl⟩
    rw [← hwo] at HO HB ⊢
    clear hwo
    have d1 := cellKeep HB.out D1.out
    go_wp2_with fail
    clear d1
    go_loopw [3, 19] (fun s z wr => ∃ (j : Nat) (A' : Option Addr) (m' c' : Nat), j ≤ m ∧ z = .int .i64 j ∧ s = .slice A' m' c' ∧ m' = (M.pairTo rs i ++ M.pairRow rs i j).length ∧ wr.ownsRow w1.heap.size 131 5 (.slice A' m' c') m' (pairs_ (M.pairTo rs i ++ M.pairRow rs i j)) ∧ Below w1.heap.size w1 wr) (fun _ z _ => m - (intOf z).toNat)
    case atStart => exact ⟨0, A', m', c', by omega, rfl, rfl, HN.out, HO.out, HB.out⟩
    case round =>
      clear HO HB HN
      obtain ⟨j, A2, m2, c2, hj, rfl, rfl, hm2, hown, hb⟩ := hrel
      have HN := Lib.hid hm2
      have HO := Lib.hid hown
      have HB := Lib.hid hb
      clear hm2 hown hb
      by_cases hjm : j < m
      case neg =>
        obtain rfl : j = m := by omega
        have HE := Lib.hid (show M.pairTo rs (i + 1) ++ M.pairRow rs (i + 1) 0 = M.pairTo rs i ++ M.pairRow rs i j by rw [HM.out]; simp [M.pairRow, M.pairTo])
        go_wp2
        go_roundw
        case rel => exact ⟨i + 1, A2, m2, c2, by omega, by go_num, rfl, by rw [HE.out]; exact HN.out, by rw [HE.out]; exact HO.out, HB.out⟩
        case measure => simp [intOf] <;> omega
      case pos =>
      have hnb : m2 ≤ 13000 := by rw [HN.out]; exact HLB.out _ _ hi (Nat.le_of_lt hjm)
      have HE := Lib.hid (show M.pairTo rs i ++ M.pairRow rs i (j + 1) = M.pairTo rs i ++ M.pairRow rs i j ++ M.inside rs i j ++ M.across rs i j by rw [M.pairRow]; simp only [List.append_assoc])
      have h4 := Lib.hid (HIN.out i j wr (HA1.out.below HB.out) hlt hjm)
      have h5 := Lib.hid (fun W hA => HAC.out i j W hA hlt hjm)
      have hil := HIL.out i j
      have hcl := HCL.out i j
      generalize M.inside rs i j = xs at *
      generalize M.across rs i j = ys at *
      generalize M.pairTo rs i ++ M.pairRow rs i j = P0 at *
      have e0 := cellKeep HB.out D0.out
      have e1 := cellKeep HB.out D1.out
      go_wp2_with fail
      refine h4.out.mono ?_
      rintro e w3 ⟨ad, c3, rfl, hown, hb⟩
      have HO3 := Lib.hid (own_below HO.out hb)
      have HB3 := Lib.hid (HB.out.trans (hb.mono HB.out.size))
      have HI := Lib.hid (Rd.of_own hown)
      clear hb hown e0 e1 h4
      go_wp2_with (at_builtin; refine push_many rfl _ _ rfl slPair rfl HO3.out rfl HI.out (pairs_one _) HB3.out rfl (by omega) ?_; intro A4 c4 w4 hown4 hb4; have e0 := cellKeep hb4 D0.out; have e1 := cellKeep hb4 D1.out)
      have HO4 := Lib.hid hown4
      have HB4 := Lib.hid hb4
      clear hown4 hb4 HI HO3 HB3
      refine (h5.out _ (HA1.out.below HB4.out)).mono ?_
      rintro e w5 ⟨ad5, c5, rfl, hown, hb⟩
      have HO5 := Lib.hid (own_below HO4.out hb)
      have HB5 := Lib.hid (HB4.out.trans (hb.mono HB4.out.size))
      have HI := Lib.hid (Rd.of_own hown)
      clear hb hown e0 e1 h5
      go_wp2_with (at_builtin; refine push_many rfl _ _ rfl slPair rfl HO5.out rfl HI.out (pairs_one _) HB5.out rfl (by omega) ?_; intro A6 c6 w6 hown6 hb6)
      go_roundw
      case rel => exact ⟨j + 1, A6, m2 + xs.length + ys.length, c6, by omega, by go_num, rfl, by rw [HE.out, List.length_append, List.length_append, ← HN.out], by rw [HE.out, pairs_add, pairs_add]; exact hown6, hb6⟩
      case measure => simp [intOf] <;> omega

end Go.Proofs.Ytlohpphmamapeaa
/-
  A slice of the call's own that begins at any place of its array: what is appended to it (many elements, out of any slice), and what is cut from its head.
  Conditions: at most 2^40 elements of at most 64 bytes.
-/
namespace Go.Proofs.Ytlohpphmamapeaa
open Go.RowKit
set_option linter.unusedVariables false
set_option linter.unusedSimpArgs false

/-- The slice (A, n, c) lies in a block from 'base' on, with room to its capacity, and holds the cells xs. -/
def OwnS (W : World) (base : Nat) (e : TypeId) (size : Nat) (A : Option Addr) (n c : Nat) (xs : List Value) : Prop :=
  xs.length = n * size ∧ n ≤ c ∧ c ≤ maxLen ∧ (0 < c → ∃ g off cur, A = some ⟨g, off, none⟩ ∧ base ≤ g ∧ W.heap[g]? = some (.cells cur e (0, 0)) ∧ off + c * size ≤ cur.size ∧ ∀ j u, xs[j]? = some u → cur[off + j]? = some u)
/-- The block that an append may write. -/
def blkS (A : Option Addr) (c : Nat) : Option Nat := if c = 0 then none else A.map (·.block)
section
variable {W w' : World} {base size n c : Nat} {A : Option Addr} {e : TypeId} {xs : List Value}
theorem OwnS.of_row (h : W.ownsRow base e size (.slice A n c) n xs) : OwnS W base e size A n c xs := by
  rcases h.2 with ⟨hv, h0⟩ | ⟨g, cap, cur, hv, hb, hg, hnc, hcm, hcs, ht⟩
  · injection hv with h1 h2 h3
    subst h1
    subst h2
    subst h3
    exact ⟨h.1, Nat.le_refl _, by simp [maxLen], fun h => by omega⟩
  · injection hv with h1 h2 h3
    subst h1
    subst h3
    refine ⟨h.1, hnc, hcm, fun _ => ⟨g, 0, cur, rfl, hb, hg, by rw [hcs]; omega, fun j u hu => ?_⟩⟩
    rw [← ht, List.getElem?_take] at hu
    split at hu
    · rw [Nat.zero_add, ← Array.getElem?_toList]; exact hu
    · cases hu
theorem OwnS.own (h : OwnS W base e size A n c xs) : Own W base size A n xs := by
  refine ⟨h.1, fun hn => ?_⟩
  obtain ⟨g, off, cur, h1, h2, h3, h4, h5⟩ := h.2.2.2 (by have := h.2.1; omega)
  have hle : off + n * size ≤ cur.size := Nat.le_trans (Nat.add_le_add_left (Nat.mul_le_mul_right size h.2.1) off) h4
  refine ⟨g, off, cur, e, h1, h2, h3, hle, ?_⟩
  apply List.ext_getElem?
  intro j
  rw [List.getElem?_take]
  split
  · rename_i hj
    rw [List.getElem?_drop, Array.getElem?_toList, List.getElem?_eq_getElem (l := xs) (by rw [h.1]; exact hj)]
    exact h5 j _ (List.getElem?_eq_getElem _)
  · rename_i hj
    rw [List.getElem?_eq_none (l := xs) (by rw [h.1]; omega)]
theorem OwnS.grown (h : OwnS W base e size A n c xs) {row : Option Nat} (hg : W.grownBy w' row) (hne : ∀ g, blkS A c = some g → some g ≠ row) : OwnS w' base e size A n c xs :=
  ⟨h.1, h.2.1, h.2.2.1, fun hc => by
    obtain ⟨g, off, cur, h1, h2, h3, h4⟩ := h.2.2.2 hc
    exact ⟨g, off, cur, h1, h2, by rw [hg.block g (Array.getElem?_eq_some_iff.1 h3).1 (hne g (by unfold blkS; rw [if_neg (by omega), h1]; rfl))]; exact h3, h4⟩⟩
theorem OwnS.below (h : OwnS W base e size A n c xs) (hb : Below W.heap.size W w') : OwnS w' base e size A n c xs :=
  h.grown (grown_of_below hb none) (by simp)
theorem OwnS.mono {base' : Nat} (h : OwnS W base e size A n c xs) (hb : base' ≤ base) : OwnS W base' e size A n c xs :=
  ⟨h.1, h.2.1, h.2.2.1, fun hc => by
    obtain ⟨g, off, cur, h1, h2, r⟩ := h.2.2.2 hc
    exact ⟨g, off, cur, h1, by omega, r⟩⟩
theorem blkS_some {g : Nat} (h : blkS A c = some g) : 0 < c ∧ ∃ ad, A = some ad ∧ ad.block = g := by
  unfold blkS at h
  split at h
  · cases h
  · rename_i h0
    cases A with
    | none => cases h
    | some ad => exact ⟨by omega, ad, rfl, by simpa using h⟩
theorem OwnS.lt (h : OwnS W base e size A n c xs) : ∀ g, blkS A c = some g → base ≤ g ∧ g < W.heap.size := by
  intro g hg
  obtain ⟨hc, ad, rfl, rfl⟩ := blkS_some hg
  obtain ⟨g, off, cur, h1, h2, h3, _⟩ := h.2.2.2 hc
  injection h1 with h1
  subst h1
  exact ⟨h2, (Array.getElem?_eq_some_iff.1 h3).1⟩
theorem OwnS.setLow {b o : Nat} {u : Value} (h : OwnS W base e size A n c xs) (hp : b < base) : OwnS (W.setCell ⟨b, o, none⟩ u) base e size A n c xs :=
  h.grown (row := some b) ⟨rfl, rfl, rfl, by simp, fun k _ hk => heap_setCell_other W ⟨b, o, none⟩ k u (fun e => hk (by simp [e]))⟩ fun g hg e => by
    have := (h.lt g hg).1
    injection e with e
    omega
/-- The head cut off: room behind it. -/
theorem OwnS.tail {g off : Nat} (h : OwnS W base e size (some ⟨g, off, none⟩) (n + 1) c xs) (hc : 1 < c) : OwnS W base e size (some ⟨g, off + size, none⟩) n (c - 1) (xs.drop size) := by
  refine ⟨by rw [List.length_drop, h.1, Nat.succ_mul, Nat.add_sub_cancel], by have := h.2.1; omega, by have := h.2.2.1; omega, fun _ => ?_⟩
  obtain ⟨g', off', cur, h1, h2, h3, h4, h5⟩ := h.2.2.2 (by omega)
  injection h1 with h1
  injection h1 with h1 h6
  subst h1
  subst h6
  refine ⟨g, off + size, cur, rfl, h2, h3, ?_, fun j u hu => ?_⟩
  · have : c * size = (c - 1) * size + size := by rw [← Nat.succ_mul]; congr 1; omega
    omega
  · rw [List.getElem?_drop] at hu
    rw [Nat.add_assoc]
    exact h5 _ _ hu
theorem OwnS.tail1 (h : OwnS W base e size A 1 1 xs) : OwnS W base e size A 0 0 (xs.drop size) := ⟨by rw [List.length_drop, h.1]; omega, by omega, by simp [maxLen], fun h => by omega⟩
end
theorem heap_setCells_same (g : Nat) (e : TypeId) : ∀ (us : List Value) (o : Nat) (w : World) (cur : Array Value), w.heap[g]? = some (.cells cur e (0, 0)) → o + us.length ≤ cur.size →
    ∃ cur', (w.setCells g o us).heap[g]? = some (.cells cur' e (0, 0)) ∧ cur'.size = cur.size ∧ (∀ j, j < o → cur'[j]? = cur[j]?) ∧ ∀ j u, us[j]? = some u → cur'[o + j]? = some u
  | [], o, w, cur, h, _ => ⟨cur, h, rfl, fun _ _ => rfl, fun j u hu => by simp at hu⟩
  | v :: us, o, w, cur, h, hl => by
    obtain ⟨cur', h1, h2, h3, h4⟩ := heap_setCells_same g e us (o + 1) (w.setCell ⟨g, o, none⟩ v) (cur.setIfInBounds o v) (heap_setCell_same w g o cur e v h) (by simp at hl ⊢; omega)
    refine ⟨cur', h1, by simpa using h2, fun j hj => ?_, fun j u hu => ?_⟩
    · rw [h3 j (by omega), Array.getElem?_setIfInBounds_ne (by omega)]
    · cases j with
      | zero =>
        simp at hu
        subst hu
        rw [Nat.add_zero, h3 o (by omega)]
        simp at hl
        simp [Array.getElem?_setIfInBounds]
        omega
      | succ j =>
        have := h4 j u (by simpa using hu)
        rw [← this]
        congr 1
        omega
section
variable {P : Program} {ops : Array Oper} {rest : List Oper} {o : Oper} {a : Act} {Q : Exit → Act → World → Prop} {W : World}
theorem wp_push_off {K : Act → World → Prop} (hgd : o.guard = none) (s x : Operand) {t : TypeId} (ho : o.op = .call { callee := .builtin .append, args := #[s, x], argTypes := #[t, t] }) {e : TypeId} {size : Nat} (T : SlT P t e size)
    {base n c : Nat} {A : Option Addr} {xs : List Value} (hs : a.eval s = .slice A n c) (hown : OwnS W base e size A n c xs) {us : List Value} {X : Option Addr} {m d : Nat} (hx : a.eval x = .slice X m d)
    (hrd : Rd W size X m us) (h1 : ∀ u ∈ us, u.oneCell' = true) (hbw : base ≤ W.heap.size) (hn : n + m ≤ 1099511627776)
    (h : ∀ A' c' w', OwnS w' base e size A' (n + m) c' (xs ++ us) → W.grownBy w' (blkS A c) → ((A' = A ∧ c' = c) ∨ blkS A' c' = none ∨ blkS A' c' = some W.heap.size) → K (a.put o.dst (.slice A' (n + m) c')) w') : Oper.wp P o a W K Q := by
  obtain ⟨i, z, hi, hz, hsz, hby, hzs⟩ := T.info
  subst hsz
  have hK' : ∀ (a : Act) (w : World), K a w → K a w := fun _ _ h => h
  have hsrc : Src P i.size t (.slice X m d) m us W := by
    by_cases hm : m = 0
    · subst hm
      have h0 : us = [] := List.eq_nil_of_length_eq_zero (by simpa using hrd.1)
      subst h0
      cases X with
      | none => exact Src.ofNil W T.und d
      | some ad => exact Src.ofSlice W T.und ad 0 d [] (by simp) (fun j u hu => by simp at hu) (fun u hu => by cases hu)
    · obtain ⟨b, q, rfl, hc⟩ := hrd.2 (by omega)
      refine Src.ofSlice W T.und _ m d us hrd.1 (fun j u hu => ?_) h1
      have ha : (⟨b, q, none⟩ : Addr).add j = ⟨b, q + j, none⟩ := by unfold Addr.add; split <;> simp_all
      rw [ha]
      exact hc j u hu
  have hlen : (xs ++ us).length = (n + m) * i.size := by rw [List.length_append, hown.1, hrd.1, Nat.add_mul]
  by_cases hm : m = 0
  · subst hm
    have h0 : us = [] := List.eq_nil_of_length_eq_zero (by simpa using hrd.1)
    subst h0
    have hrun := run_append_nothing (P := P) W t t o.type e i T.und hi A n c hown.2.1 (.slice X 0 d) hsrc
    unfold Oper.wp
    simp [execOp, ho, resolve, invoke, builtin, hs, hx, hrun, Result.andThen]
    exact hK' _ _ (h A c W (by simpa using hown) ⟨rfl, rfl, rfl, Nat.le_refl _, fun _ _ _ => rfl⟩ (Or.inl ⟨rfl, rfl⟩))
  by_cases hroom : n + m ≤ c
  · obtain ⟨g, off, cur, hA, h2, h3, h4, h5⟩ := hown.2.2.2 (by omega)
    subst hA
    have hcs : n * i.size + us.length ≤ c * i.size := by rw [hrd.1, ← Nat.add_mul]; exact Nat.mul_le_mul_right _ hroom
    have hrun := run_append_room_src (P := P) (w := W) t t o.type e i T.und hi g off n c (.slice X m d) m us hsrc hroom (fun j hj => by
        rw [cell_of_row W g _ cur e (0, 0) h3, Array.getElem?_eq_getElem (by omega)]; rfl) (fun j hj => frozen_of_row W g _ cur e h3)
    obtain ⟨cur', e1, e2, e3, e4⟩ := heap_setCells_same g e us (off + n * i.size) W cur h3 (by omega)
    unfold Oper.wp
    simp [execOp, ho, resolve, invoke, builtin, hs, hx, hrun, Result.andThen]
    refine hK' _ _ (h (some ⟨g, off, none⟩) c _ ⟨hlen, hroom, hown.2.2.1, fun _ => ⟨g, off, cur', rfl, h2, e1, by omega, fun j u hu => ?_⟩⟩ ⟨World.os_setCells W g _ us, ?_, World.output_setCells W g _ us, (World.keptBut_setCells g (may := fun _ => True) us _ W (fun _ _ => trivial)).size, fun k hk hne => World.heap_setCells_other W g _ us hk (fun e => hne (by unfold blkS; rw [if_neg (by omega), e]; rfl))⟩ (Or.inl ⟨rfl, rfl⟩))
    · rw [List.getElem?_append] at hu
      split at hu
      · rename_i hj
        rw [e3 _ (by rw [hown.1] at hj; omega)]
        exact h5 j u hu
      · rename_i hj
        have := e4 _ u hu
        rw [← this]
        congr 1
        rw [hown.1] at hj ⊢
        omega
    · clear hrun e1 hsrc h3
      generalize off + n * i.size = q
      clear hrd hlen hcs hK' h hx hs hown h5 h4 e2 e3 e4 h1 hbw
      induction us generalizing W q with
      | nil => rfl
      | cons v us ih => exact (ih _).trans rfl
  · have hb64 : (n + m) * i.bytes ≤ 140737488355328 := by
      have := Nat.mul_le_mul (show n + m ≤ 1099511627776 by omega) hby
      omega
    have hold : (Builtin.firstCells i.size n (.slice A n c)).run P W.drew = .ok xs.toArray W.drew := by
      by_cases hn0 : n = 0
      · subst hn0
        have h0 : xs = [] := List.eq_nil_of_length_eq_zero (by simpa using hown.1)
        subst h0
        cases A with
        | none => exact run_firstCells_none W.drew i.size 0 0 c
        | some ad => exact run_firstCells_some W.drew i.size 0 ad 0 c [] (by simp) (fun j u hu => by simp at hu)
      · obtain ⟨g, off, cur, hA, h2, h3, h4, h5⟩ := hown.2.2.2 (by have := hown.2.1; omega)
        subst hA
        refine run_firstCells_some W.drew i.size n _ n c xs hown.1 (fun j u hu => ?_)
        have ha : (⟨g, off, none⟩ : Addr).add j = ⟨g, off + j, none⟩ := by unfold Addr.add; split <;> simp_all
        rw [ha]
        exact (cell_of_row W g (off + j) cur e (0, 0) h3).trans (h5 j u hu)
    have hrun := run_append_grow_src (P := P) (w := W) t t o.type e i z T.und hi hz A n c xs hold (.slice X m d) m us hsrc (by omega) (by omega) (growslice_fits (by omega) hb64)
    have hge := grownCap_ge W (n + m) c e
    have hle := grownCap_le_maxLen W (n + m) c e (by simp only [maxLen]; omega)
    unfold Oper.wp
    simp [execOp, ho, resolve, invoke, builtin, hs, hx, hrun, Result.andThen]
    refine hK' _ _ (h (some ⟨W.heap.size, 0, none⟩) _ _ ⟨hlen, hge, hle, fun _ => ⟨W.heap.size, 0, _, rfl, hbw, heap_alloc_new W.drew _, ?_, fun j u hu => ?_⟩⟩ ⟨rfl, rfl, rfl, by simp, fun k hk _ => ((Below.refl W.heap.size W.drew).alloc (Nat.le_refl _) _).block k hk⟩ (Or.inr (by unfold blkS; split <;> simp)))
    · simp only [Array.size_append, List.size_toArray, size_zeroCells, hzs, hlen, hown.1, hrd.1, Nat.zero_add, ← Nat.add_mul]
      refine Nat.mul_le_mul_right _ ?_
      omega
    · have hj := (List.getElem?_eq_some_iff.1 hu).1
      rw [← Array.getElem?_toList]
      simp only [Array.toList_append, Nat.zero_add]
      rw [List.getElem?_append_left (by simpa using hj)]
      simpa using hu
/-- Many elements appended, out of a slice that may be empty or nil. -/
theorem push_off_many (hgd : o.guard = none) (s x : Operand) {t : TypeId} (ho : o.op = .call { callee := .builtin .append, args := #[s, x], argTypes := #[t, t] }) {e : TypeId} {size : Nat} (T : SlT P t e size)
    {base n c : Nat} {A : Option Addr} {xs : List Value} (hs : a.eval s = .slice A n c) (hown : OwnS W base e size A n c xs) {us : List Value} {X : Option Addr} {m d : Nat} (hx : a.eval x = .slice X m d)
    (hrd : Rd W size X m us) (h1 : ∀ u ∈ us, u.oneCell' = true) (hbw : base ≤ W.heap.size) (hn : n + m ≤ 1099511627776)
    (h : ∀ A' c' w', OwnS w' base e size A' (n + m) c' (xs ++ us) → W.grownBy w' (blkS A c) → ((A' = A ∧ c' = c) ∨ blkS A' c' = none ∨ blkS A' c' = some W.heap.size) → wpList P ops Q rest (a.put o.dst (.slice A' (n + m) c')) w') : wpList P ops Q (o :: rest) a W :=
  wpList_plain hgd fun K hK => wp_push_off hgd s x ho T hs hown hx hrd h1 hbw hn fun A' c' w' h2 h3 h4 => hK _ _ (h A' c' w' h2 h3 h4)
theorem step_push_off {K : Act → World → Prop} {E : Prop} (hgd : o.guard = none) (s x : Operand) {t : TypeId} (ho : o.op = .call { callee := .builtin .append, args := #[s, x], argTypes := #[t, t] }) {e : TypeId} {size : Nat} (T : SlT P t e size)
    {base n c : Nat} {A : Option Addr} {xs : List Value} (hs : a.eval s = .slice A n c) (hown : OwnS W base e size A n c xs) {us : List Value} {X : Option Addr} {m d : Nat} (hx : a.eval x = .slice X m d)
    (hrd : Rd W size X m us) (h1 : ∀ u ∈ us, u.oneCell' = true) (hbw : base ≤ W.heap.size) (hn : n + m ≤ 1099511627776)
    (h : ∀ A' c' w', OwnS w' base e size A' (n + m) c' (xs ++ us) → W.grownBy w' (blkS A c) → ((A' = A ∧ c' = c) ∨ blkS A' c' = none ∨ blkS A' c' = some W.heap.size) → K (a.put o.dst (.slice A' (n + m) c')) w') : if Region.wanted o (yielded ops a.tmps) = true then Oper.wp P o a W K Q else E := by
  have hw : Region.wanted o (yielded ops a.tmps) = true := by simp [Region.wanted, hgd]
  rw [if_pos hw]
  exact wp_push_off hgd s x ho T hs hown hx hrd h1 hbw hn h
end
end Go.Proofs.Ytlohpphmamapeaa
/-
  A region that draws its order and ends in a store to a cell that it loads: the loads are taken first, under what holds behind each operation but the last.
  Conditions: the last operation waits for all others.
-/
namespace Go.Proofs.Ytlohpphmamapeaa
open Go
set_option linter.unusedVariables false

section
variable {P : Program} {md : Region.Mode} {ops : Array Oper} {Q : Exit → Act → World → Prop} {S : World → Prop} {k : Nat}
/-- Whatever order is picked, and S holds behind every operation but number k. -/
def wpAnyU (P : Program) (md : Region.Mode) (ops : Array Oper) (Q : Exit → Act → World → Prop) (S : World → Prop) (k : Nat) : Nat → Array Bool → Act → World → Prop
  | 0, listed, a, w => Region.ready md ops listed = [] ∧ Q .normal a w
  | fuel + 1, listed, a, w =>
    (Region.ready md ops listed = [] → Q .normal a w) ∧
    ∀ i ∈ Region.ready md ops listed, wpOp P ops Q i (fun a' w' => (i = k ∨ S w') ∧ wpAnyU P md ops Q S k fuel (listed.setIfInBounds i true) a' w') a w
theorem wpAny_of_U : ∀ (fuel : Nat) (listed : Array Bool) (a : Act) (w : World), wpAnyU P md ops Q S k fuel listed a w → wpAny P md ops Q fuel listed a w
  | 0, _, _, _, h => h
  | fuel + 1, _, _, _, h => ⟨h.1, fun i hi => wpOp_mono (fun a' w' h' => wpAny_of_U fuel _ a' w' h'.2) (h.2 i hi)⟩
def headB (md : Region.Mode) (ops : Array Oper) (n : Nat) (listed : Array Bool) : Bool :=
  (decide (listed.size = ops.size) && (List.range ops.size).all fun j => !listed.getD j false || (match ops[j]? with
    | some oj => oj.after.all fun e => !Region.binds md e || listed.getD e.on false
    | none => true)) && (List.range ops.size).all fun t => decide (t < n) || !listed.getD t true
theorem headB_inv {n : Nat} {listed : Array Bool} (h : headB md ops n listed = true) : HeadInv md ops n listed := by
  unfold headB at h
  rw [Bool.and_eq_true, Bool.and_eq_true, decide_eq_true_iff] at h
  obtain ⟨⟨h1, h2⟩, h3⟩ := h
  refine ⟨h1, fun j oj hj hl e he hb => ?_, fun t ht ht' => ?_⟩
  · have hjl : j < ops.size := (Array.getElem?_eq_some_iff.1 hj).1
    have h4 := List.all_eq_true.1 h2 j (List.mem_range.2 hjl)
    rw [hl, hj] at h4
    simp only [Bool.not_true, Bool.false_or] at h4
    have h5 := Array.all_eq_true'.1 h4 e he
    rw [hb] at h5
    simpa using h5
  · have h4 := List.all_eq_true.1 h3 t (List.mem_range.2 ht')
    rw [decide_eq_false (by omega)] at h4
    simpa using h4
theorem wpAnyU_first {i : Nat} {oi : Oper} {v : Value} (hi : ops[i]? = some oi) (hsel : ∀ (j : Nat) (o : Oper) cs b, ops[j]? = some o → o.op ≠ .select cs b)
    (hs : Region.sinkB md ops k = true) (hc : Region.chainB md ops k = true) (hn : k < ops.size) (hik : i < k)
    (hQ : ∀ c a w, Q (.panic c) (a.put oi.dst v) w → Q (.panic c) a w) :
    ∀ (fuel : Nat) (listed : Array Bool) (a : Act) (w : World), HeadInv md ops k listed →
      (∀ j oj, ops[j]? = some oj → j ≠ i → listed.getD j true = false → (∀ e ∈ oj.after, Region.binds md e = true → e.on ≠ i) → oi.apart ops oj = true) →
      i ∈ Region.ready md ops listed → YieldsIf P ops S oi v a → S w →
      wpAnyU P md ops Q S k fuel (listed.setIfInBounds i true) (a.put oi.dst v) w → wpAnyU P md ops Q S k (fuel + 1) listed a w := by
  intro fuel
  induction fuel with
  | zero =>
    intro listed a w _ _ hr hy hS H
    refine ⟨fun h => (by rw [h] at hr; cases hr), fun j hj => ?_⟩
    by_cases hji : j = i
    · subst hji; exact hy.wpOp hi hS ⟨Or.inr hS, H⟩
    · have := ready_mono hj hji
      rw [H.1] at this
      cases this
  | succ fuel ih =>
    intro listed a w inv hfree hr hy hS H
    refine ⟨fun h => (by rw [h] at hr; cases hr), fun j hj => ?_⟩
    by_cases hji : j = i
    · subst hji; exact hy.wpOp hi hS ⟨Or.inr hS, H⟩
    · have h1 := H.2 j (ready_mono hj hji)
      have hiun := (mem_ready.1 hr).1
      have hjk : j < k := by
        rcases Nat.lt_or_ge j k with h | h
        · exact h
        · exact absurd hj (tail_waits hs hc hn inv (k - i) i rfl hik hiun j h)
      obtain ⟨hjun, oj, hoj, hall⟩ := mem_ready.1 hj
      have hnot : ∀ e ∈ oj.after, Region.binds md e = true → e.on ≠ i := fun e he hb heq => by
        have h1 := hall e he hb
        rw [heq, getD_both hiun] at h1
        cases h1
      have h2 := wpOp_putIf hoj (hfree j oj hoj hji hjun hnot) (fun cs b => hsel i oi cs b hi) (fun cs b => hsel j oj cs b hoj) hQ hy h1
      have hfree' : ∀ q oq, ops[q]? = some oq → q ≠ i → (listed.setIfInBounds j true).getD q true = false →
          (∀ e ∈ oq.after, Region.binds md e = true → e.on ≠ i) → oi.apart ops oq = true := fun q oq hq hqi hun hno => by
        refine hfree q oq hq hqi ?_ hno
        by_cases hjq : j = q
        · subst hjq; exact hjun
        · rw [getD_set_ne true hjq] at hun; exact hun
      refine wpOp_mono (fun a' w' h3 => ?_) h2
      have hSw : S w' := by
        rcases h3.2.1 with h | h
        · omega
        · exact h
      refine ⟨Or.inr hSw, ih (listed.setIfInBounds j true) a' w' (inv.set hj hjk) hfree' (ready_mono hr (Ne.symm hji)) h3.1 hSw ?_⟩
      rw [Array.setIfInBounds_comm _ _ hji]
      exact h3.2.2
theorem wpAnyU_take {i : Nat} {oi : Oper} {v : Value} {fuel : Nat} {listed : Array Bool} {a : Act} {w : World} (hi : ops[i]? = some oi)
    (hB : (Region.noSelect ops && (Region.free md ops listed i && ((Region.ready md ops listed).contains i && (Region.sinkB md ops k && (Region.chainB md ops k && (decide (k < ops.size) && (decide (i < k) && headB md ops k listed))))))) = true)
    (hQ : ∀ c a w, Q (.panic c) (a.put oi.dst v) w → Q (.panic c) a w) (hy : YieldsIf P ops S oi v a) (hS : S w)
    (h : wpAnyU P md ops Q S k fuel (listed.setIfInBounds i true) (a.put oi.dst v) w) : wpAnyU P md ops Q S k (fuel + 1) listed a w := by
  simp only [Bool.and_eq_true, decide_eq_true_iff] at hB
  obtain ⟨hs, hf, hr, hsi, hch, hn, hik, hh⟩ := hB
  exact wpAnyU_first hi (Region.noSelect_spec hs) hsi hch hn hik hQ fuel listed a w (headB_inv hh) (Region.free_spec hi hf) (by simpa using hr) hy hS h
def AllU (P : Program) (md : Region.Mode) (ops : Array Oper) (Q : Exit → Act → World → Prop) (S : World → Prop) (k : Nat) (fuel : Nat) (listed : Array Bool) (a : Act) (w : World) (rs : List Nat) : Prop :=
  ∀ i ∈ rs, wpOp P ops Q i (fun a' w' => (i = k ∨ S w') ∧ wpAnyU P md ops Q S k fuel (listed.setIfInBounds i true) a' w') a w
theorem AllU.nil {fuel : Nat} {listed : Array Bool} {a : Act} {w : World} : AllU P md ops Q S k fuel listed a w [] := fun _ h => by cases h
theorem AllU.cons {fuel : Nat} {listed : Array Bool} {a : Act} {w : World} {i : Nat} {o : Oper} {rs : List Nat} (ho : ops[i]? = some o)
    (h : ∀ K' : Act → World → Prop, Shut (∀ a w, S w → (S w → wpAnyU P md ops Q S k fuel (listed.setIfInBounds i true) a w) → K' a w) → if Region.wanted o (yielded ops a.tmps) = true then Oper.wp P o a w K' Q else K' (a.put o.dst undef) w)
    (hs : AllU P md ops Q S k fuel listed a w rs) : AllU P md ops Q S k fuel listed a w (i :: rs) := fun j hj => by
  rcases List.mem_cons.1 hj with rfl | hj
  · exact wpOp_step ho (fun K' hK => h K' (fun a w hS hW => hK a w ⟨Or.inr hS, hW hS⟩))
  · exact hs j hj
theorem AllU.last {fuel : Nat} {listed : Array Bool} {a : Act} {w : World} {o : Oper} (ho : ops[k]? = some o)
    (h : ∀ K' : Act → World → Prop, Shut (∀ a w, wpAnyU P md ops Q S k fuel (listed.setIfInBounds k true) a w → K' a w) → if Region.wanted o (yielded ops a.tmps) = true then Oper.wp P o a w K' Q else K' (a.put o.dst undef) w) : AllU P md ops Q S k fuel listed a w [k] := fun j hj => by
  obtain rfl := List.mem_singleton.1 hj
  exact wpOp_step ho (fun K' hK => h K' (fun a w hW => hK a w ⟨Or.inl rfl, hW⟩))
theorem wpAnyU_ready {rs : List Nat} {fuel : Nat} {listed : Array Bool} {a : Act} {w : World} (hr : Region.ready md ops listed = rs) (hne : rs ≠ [])
    (h : AllU P md ops Q S k fuel listed a w rs) : wpAnyU P md ops Q S k (fuel + 1) listed a w := ⟨fun h0 => absurd (hr ▸ h0) hne, hr ▸ h⟩
theorem wpAnyU_done {listed : Array Bool} {a : Act} {w : World} (hr : Region.ready md ops listed = []) (h : Q .normal a w) :
    ∀ fuel, wpAnyU P md ops Q S k fuel listed a w
  | 0 => ⟨hr, h⟩
  | _ + 1 => ⟨fun _ => h, by rw [hr]; simp⟩
/-- The beginning. -/
theorem wp_region_U {id : Nat} {a : Act} {w : World} (S : World → Prop) (k : Nat) (hm : P.follows .mixedOrders = true) (hS : S w.drew)
    (h : S w.drew → wpAnyU P .any ops Q S k ops.size (Array.replicate ops.size false) a w.drew) : (Code.region id ops true).wp P Q a w :=
  wp_region_any hm (wpAny_of_U _ _ _ _ (h hS))
end
section
variable {P : Program} {md : Region.Mode} {l : List Oper} {Q : Exit → Act → World → Prop} {S : World → Prop} {k : Nat}
theorem at_drop {l : List Oper} {i : Nat} {o : Oper} {tl : List Oper} (h : l.drop i = o :: tl) : l.toArray[i]? = some o := by
  rw [List.getElem?_toArray]
  have := List.getElem?_drop (xs := l) (i := i) (j := 0)
  rw [h] at this
  simpa using this.symm
theorem takeU {i : Nat} {oi : Oper} {tl : List Oper} {v : Value} {fuel : Nat} {listed : Array Bool} {a : Act} {w : World} (hd : l.drop i = oi :: tl)
    (hB : (Region.noSelect l.toArray && (Region.free md l.toArray listed i && ((Region.ready md l.toArray listed).contains i && (Region.sinkB md l.toArray k && (Region.chainB md l.toArray k && (decide (k < l.toArray.size) && (decide (i < k) && headB md l.toArray k listed))))))) = true)
    (hQ : ∀ c a w, Q (.panic c) (a.put oi.dst v) w → Q (.panic c) a w) (hy : YieldsIf P l.toArray S oi v a) (hS : S w)
    (h : wpAnyU P md l.toArray Q S k fuel (listed.setIfInBounds i true) (a.put oi.dst v) w) : wpAnyU P md l.toArray Q S k (fuel + 1) listed a w := wpAnyU_take (at_drop hd) hB hQ hy hS h
theorem consU {fuel : Nat} {listed : Array Bool} {a : Act} {w : World} {i : Nat} {o : Oper} {tl : List Oper} {rs : List Nat} (hd : l.drop i = o :: tl)
    (h : ∀ K' : Act → World → Prop, Shut (∀ a w, S w → (S w → wpAnyU P md l.toArray Q S k fuel (listed.setIfInBounds i true) a w) → K' a w) → if Region.wanted o (yielded l.toArray a.tmps) = true then Oper.wp P o a w K' Q else K' (a.put o.dst undef) w)
    (hs : AllU P md l.toArray Q S k fuel listed a w rs) : AllU P md l.toArray Q S k fuel listed a w (i :: rs) := AllU.cons (at_drop hd) h hs
theorem lastU {fuel : Nat} {listed : Array Bool} {a : Act} {w : World} {o : Oper} {tl : List Oper} (hd : l.drop k = o :: tl)
    (h : ∀ K' : Act → World → Prop, Shut (∀ a w, wpAnyU P md l.toArray Q S k fuel (listed.setIfInBounds k true) a w → K' a w) → if Region.wanted o (yielded l.toArray a.tmps) = true then Oper.wp P o a w K' Q else K' (a.put o.dst undef) w) : AllU P md l.toArray Q S k fuel listed a w [k] := AllU.last (at_drop hd) h
end
end Go.Proofs.Ytlohpphmamapeaa
/-
  Contracts of StartWork; the marking of a work without rules.
  Conditions: at most 2^20 equations.
-/
namespace Go.Proofs.Ytlohpphmamapeaa
open Go.RowKit
set_option linter.unusedVariables false
set_option linter.unusedSimpArgs false

def M.startOk (k : Int) (es : List M.Rule) : Bool := M.within k 1 4 && (decide (es.length ≤ 12) && !es.any (fun r => !M.SidesOk k r))
def M.startK (k : Int) (es : List M.Rule) : Int := if M.startOk k es = true then k else 0
def M.startQ (k : Int) (es : List M.Rule) : List M.Rule := if M.startOk k es = true then es else []
def RetStart (sk : Int) (sq : List M.Rule) (so : Bool) (w : World) (x : Ending) (w' : World) : Prop :=
  ∃ A c, x = .returned (.tuple #[.agg #[.int .i64 sk, .slice none 0 0, .slice A sq.length c, .int .i64 0], .bool so]) ∧ Own w' w.heap.size 2 A sq.length (ruls sq) ∧ Below w.heap.size w w'
theorem start_no {k : Int} {es : List M.Rule} (h : M.startOk k es = false) : M.startK k es = 0 ∧ M.startQ k es = [] := ⟨if_neg (by rw [h]; simp), if_neg (by rw [h]; simp)⟩
theorem start_yes {k : Int} {es : List M.Rule} (h : M.startOk k es = true) : M.startK k es = k ∧ M.startQ k es = es := ⟨if_pos h, if_pos h⟩
theorem startOk_no1 {k : Int} {es : List M.Rule} (h : M.within k 1 4 = false) : M.startOk k es = false := by unfold M.startOk; rw [h]; rfl
theorem startOk_no2 {k : Int} {es : List M.Rule} (h : ¬ es.length ≤ 12) : M.startOk k es = false := by unfold M.startOk; rw [decide_eq_false h, Bool.false_and, Bool.and_false]
theorem startOk_yes {k : Int} {es : List M.Rule} (h1 : M.within k 1 4 = true) (h2 : es.length ≤ 12) : M.startOk k es = !es.any (fun r => !M.SidesOk k r) := by unfold M.startOk; rw [h1, decide_eq_true h2]; rfl
theorem ruls_one' (rs : List M.Rule) : ∀ u ∈ ruls rs, u.oneCell' = true := ruls_one rs rule2 fun r u hu => by
  simp [rule2] at hu
  rcases hu with rfl | rfl <;> simp [Value.oneCell']

set_option maxRecDepth 100000 in
set_option maxHeartbeats 1000000 in
theorem toRuleS_s (A : Option Addr) (c : Nat) (rs : List M.Rule) (w : World) (hA : Rd w 2 A rs.length (ruls rs)) (hl : rs.length ≤ 1048576) :
    Calls Try.prog 50 #[.slice A rs.length c] w fun e w' => e = .returned (.slice (some ⟨w.heap.size, 0, none⟩) rs.length rs.length) ∧ Own w' w.heap.size 2 (some ⟨w.heap.size, 0, none⟩) rs.length (ruls rs) ∧ Below w.heap.size w w' := by
  have HA := Lib.hid hA
  obtain ⟨n, hn⟩ : ∃ n, n = rs.length := ⟨_, rfl⟩
  have hnb : n ≤ 1048576 := by omega
  have HN := Lib.hid hn
  rw [← hn]
  clear hA hl hn
  go_enter Try.func50, Try.ntmps50
  go_wp2_with (at_make; refine make_law rfl _ rfl slRule rfl (by omega) ?_; intro zs w' hzl hown hb')
  obtain ⟨g, hg⟩ : ∃ g, g = w.heap.size := ⟨_, rfl⟩
  rw [← hg] at hown ⊢
  have HO := Lib.hid hown
  have HB := Lib.hid hb'
  have HL := Lib.hid hzl
  have HG := Lib.hid hg
  clear hown hb' hzl hg
  go_loopw [4] (fun i wr => ∃ k : Nat, k ≤ n ∧ i = .int .i64 k ∧ Own wr g 2 (some ⟨g, 0, none⟩) n (part rule2 rs zs 2 k) ∧ Below w.heap.size w wr) (fun i _ => n - (intOf i).toNat)
  case atStart => exact ⟨0, by omega, rfl, by rw [part_zero]; exact HO.out, HB.out⟩
  case round =>
    obtain ⟨k, hk, rfl, hown, hb⟩ := hrel
    by_cases hlt : k < n
    · obtain ⟨b, o, rfl, hz, hc, hd⟩ := (HA.out.below hb).ruleAt (k := k) (by have := HN.out; omega)
      have HP := Lib.hid (fun u v (h : rule2 rs[k] = [u, v]) => part2 (f := rule2) (rs := rs) (zs := zs) (fun _ => rfl) hz (by have h1 := HL.out; have h2 := HN.out; omega) h)
      have HO := Lib.hid hown
      have HB := Lib.hid hb
      clear hown hb
      generalize rs[k] = r at *
      obtain ⟨rl, rr⟩ := r
      simp only at hc hd
      go_wp2_with fail
      refine (toRule_c rl rr _).mono ?_
      rintro e w1 ⟨rfl, hb1⟩
      have HO1 := HO.out.below hb1
      obtain ⟨hgb, hcs, hfs, hset⟩ := HO1.at0 (by omega)
      have hlm : k * 2 + 1 < (part rule2 rs zs 2 k).length := by have := HO1.len; omega
      have hc1 := hcs (k * 2) _ (List.getElem?_eq_getElem (by omega))
      have hc2 := hcs (k * 2 + 1) _ (List.getElem?_eq_getElem hlm)
      have hf1 := hfs (k * 2)
      have hf2 := hfs (k * 2 + 1)
      have HS := Lib.hid (((hset (k * 2) (.string ⟨rl.toArray⟩)).at0 (by omega)).2.2.2 (k * 2 + 1) (.string ⟨rr.toArray⟩))
      have HT := Lib.hid (HB.out.trans (hb1.mono HB.out.size))
      have HGG := Lib.hid hgb
      generalize (part rule2 rs zs 2 k)[k * 2] = v1 at hc1
      generalize (part rule2 rs zs 2 k)[k * 2 + 1] = v2 at hc2
      clear hcs hfs hset HO1 hb1 hgb
      go_wp2_with fail
      go_roundw
      case rel => exact ⟨k + 1, by omega, by go_num, by have h1 := HS.out; rwa [HP.out _ _ rfl] at h1, (HT.out.setCell (by have := HG.out; simp; omega) _).setCell (by have := HG.out; simp; omega) _⟩
      case measure => simp [intOf]; omega
    · obtain rfl : k = n := by omega
      have HO := Lib.hid hown
      have HB := Lib.hid hb
      clear hown hb
      go_wp2
      go_ret
      have h1 := HO.out
      have h2 := HN.out
      subst h2
      rw [part_all HL.out] at h1
      have h3 := HG.out
      subst h3
      exact ⟨rfl, h1, HB.out⟩

set_option maxRecDepth 100000 in
set_option maxHeartbeats 1000000 in
theorem cloneRule_c (ad : Addr) (c : Nat) (rs : List M.Rule) (w : World) (hA : Rd w 2 (some ad) rs.length (ruls rs)) (hl : rs.length ≤ 1048576) :
    Calls Try.prog 101 #[.slice (some ad) rs.length c] w (RetRow 84 2 rs.length (ruls rs) w) := by
  have HA := Lib.hid (fun o => hA.below ((Below.refl w.heap.size w).alloc (Nat.le_refl _) o))
  have q22 := fun W => Lib.run_eql_slice_nil (P := Try.prog) W 26 _ (some ad) rs.length c 0 0 Try.underlying26
  clear hA
  go_enter Try.func101, Try.ntmps101
  go_wp2_with (at_builtin; refine push_many rfl _ _ rfl slRule rfl (World.ownsRow_lit w #[] 0 (Nat.le_refl _) (by simp [maxLen]) (by simp)) rfl (HA.out _) (ruls_one' rs) ((Below.refl _ _).alloc (Nat.le_refl _) _) rfl (by omega) ?_; intro A2 c2 w2 hown2 hb2)
  have HO := Lib.hid hown2
  have HB := Lib.hid hb2
  clear hown2 hb2
  go_ret
  exact ⟨A2, c2, by simp, by simpa using HO.out, HB.out⟩
set_option maxRecDepth 100000 in
set_option maxHeartbeats 2000000 in
theorem StartWork1_c (k : Int) (b : Nat) (r : M.Rule) (w : World) (h0 : w.cell? ⟨b, 0, none⟩ = some (.int .i64 k)) (hr : r.left.length ≤ 1048576 ∧ r.right.length ≤ 1048576) :
    Calls Try.prog 115 #[.agg #[.string ⟨r.left.toArray⟩, .string ⟨r.right.toArray⟩], .pointer (some ⟨b, 0, none⟩)] w fun e w' => e = .returned (.bool (!M.SidesOk k r)) ∧ Below w.heap.size w w' := by
  obtain ⟨rl, rr⟩ := r
  have h1 := Lib.hid (fun W => impl_SidesOk_c k rl rr W hr.1 hr.2)
  have k0 := allocKeep1 h0
  generalize M.SidesOk k ⟨rl, rr⟩ = x at *
  clear hr
  go_enter Try.func115, Try.ntmps115
  go_wp2_with fail
  refine (h1.out _).mono ?_
  rintro e w1 ⟨rfl, hb⟩
  go_wp2_with fail
  go_ret
  exact ⟨rfl, below_alloc1 hb⟩

abbrev RuleStartWork1C (b : Nat) (p : M.Rule → Bool) (rs : List M.Rule) (w : World) : Prop := ∀ W, Below w.heap.size w W → ∀ r ∈ rs, Calls Try.prog 115 #[.agg #[.string ⟨r.left.toArray⟩, .string ⟨r.right.toArray⟩], .pointer (some ⟨b, 0, none⟩)] W fun e w' => e = .returned (.bool (p r)) ∧ Below W.heap.size W w'
set_option maxRecDepth 100000 in
set_option maxHeartbeats 2000000 in
theorem IndexFuncStartWork1_c (b0 : Nat) (p : M.Rule → Bool) (A : Option Addr) (c : Nat) (rs : List M.Rule) (w : World) (hA : Rd w 2 A rs.length (ruls rs)) (hl : rs.length ≤ 1048576) (hc : RuleStartWork1C b0 p rs w) :
    Calls Try.prog 162 #[.slice A rs.length c, .func (.func 115) #[] #[.pointer (some ⟨b0, 0, none⟩)]] w fun e w' => (∃ z : Int, e = .returned (.int .i64 z) ∧ decide (0 ≤ z) = rs.any p) ∧ Below w.heap.size w w' := by
  have HA := Lib.hid hA
  have HCC := Lib.hid hc
  obtain ⟨q, hq⟩ : ∃ q, q = rs.any p := ⟨_, rfl⟩
  rw [← hq]
  have HQ := Lib.hid hq
  obtain ⟨m, hm⟩ : ∃ m, m = rs.length := ⟨_, rfl⟩
  have hmb : m ≤ 1048576 := by omega
  rw [← hm]
  have HM := Lib.hid hm
  clear hA hc hq hm hl
  go_enter Try.func162, Try.ntmps162
  go_wp2
  go_loopw [8] (fun i wr => ∃ (k : Nat), k ≤ m ∧ i = .int .i64 k ∧ (rs.drop k).any p = q ∧ Below w.heap.size w wr) (fun i _ => m - (intOf i).toNat)
  case atStart => exact ⟨0, by omega, rfl, by rw [List.drop_zero, HQ.out], Below.refl _ _⟩
  case round =>
    obtain ⟨k, hk, rfl, hf, hb⟩ := hrel
    have HB := Lib.hid hb
    have HF := Lib.hid hf
    clear hb hf
    by_cases hlt : k < m
    · obtain ⟨b, o, rfl, hz, hc1, hc2⟩ := (HA.out.below HB.out).ruleAt (k := k) (by have := HM.out; omega)
      have hd : (rs.drop k).any p = (p rs[k] || (rs.drop (k + 1)).any p) := by rw [List.drop_eq_getElem_cons hz, List.any_cons]
      have HC := Lib.hid (HCC.out wr HB.out rs[k] (List.getElem_mem hz))
      have HF2 := Lib.hid (hd.symm.trans HF.out)
      clear hd
      generalize rs[k] = r at *
      obtain ⟨rl, rr⟩ := r
      simp only at hc1 hc2 HC
      generalize p ⟨rl, rr⟩ = v at *
      cases v
      case true =>
        go_wp2_with fail
        refine HC.out.mono ?_
        rintro e w1 ⟨rfl, hb1⟩
        go_wp2_with fail
        go_ret
        exact ⟨⟨k, rfl, by have := HF2.out; rw [← this]; simp⟩, HB.out.trans (hb1.mono HB.out.size)⟩
      case false =>
        go_wp2_with fail
        refine HC.out.mono ?_
        rintro e w1 ⟨rfl, hb1⟩
        go_wp2_with fail
        go_roundw
        case rel => exact ⟨k + 1, by omega, by go_num, by have := HF2.out; rw [← this]; simp, HB.out.trans (hb1.mono HB.out.size)⟩
        case measure => simp [intOf] <;> omega
    · have e : q = false := by have := HF.out; rw [List.drop_eq_nil_of_le (by have := HM.out; omega)] at this; exact this.symm
      go_wp2
      go_ret
      exact ⟨⟨-1, rfl, by rw [e]; rfl⟩, HB.out⟩
set_option maxRecDepth 100000 in
set_option maxHeartbeats 1000000 in
theorem ContainsFuncStartWork1_c (b0 : Nat) (p : M.Rule → Bool) (A : Option Addr) (c : Nat) (rs : List M.Rule) (w : World) (hA : Rd w 2 A rs.length (ruls rs)) (hl : rs.length ≤ 1048576) (hc : RuleStartWork1C b0 p rs w) :
    Calls Try.prog 114 #[.slice A rs.length c, .func (.func 115) #[] #[.pointer (some ⟨b0, 0, none⟩)]] w fun e w' => e = .returned (.bool (rs.any p)) ∧ Below w.heap.size w w' := by
  have h1 := Lib.hid (IndexFuncStartWork1_c b0 p A c rs w hA hl hc)
  clear hA hc
  generalize rs.any p = q at *
  go_enter Try.func114, Try.ntmps114
  go_wp2_with fail
  refine h1.out.mono ?_
  rintro e w1 ⟨⟨z, rfl, hz⟩, hb⟩
  go_wp2_with fail
  go_ret
  exact ⟨rfl, hb⟩

set_option maxRecDepth 100000 in
set_option maxHeartbeats 4000000 in
theorem spec_StartWork_c (k : Int) (ad : Addr) (c : Nat) (es : List M.Rule) (w : World) (hA : Rd w 2 (some ad) es.length (ruls es)) (hl : es.length ≤ 1048576) (hs : ∀ r ∈ es, r.left.length ≤ 1048576 ∧ r.right.length ≤ 1048576) :
    Calls Try.prog 154 #[.int .i64 k, .slice (some ad) es.length c] w (RetStart (M.startK k es) (M.startQ k es) (M.startOk k es) w) := by
  have h1 := Lib.hid (fun W => l01In_c k 1 4 W)
  have HA := Lib.hid hA
  have HS := Lib.hid hs
  clear hA hs
  obtain ⟨x, hx⟩ : ∃ x, x = M.within k 1 4 := ⟨_, rfl⟩
  rw [← hx] at h1
  cases x
  case false =>
    have h0 := startOk_no1 (es := es) hx.symm
    rw [(start_no h0).1, (start_no h0).2, h0]
    clear hx h0
    go_enter Try.func154, Try.ntmps154
    go_wp2_with fail
    refine (h1.out _).mono ?_
    rintro e w1 ⟨rfl, rfl⟩
    go_wp2_with fail
    refine bodyPost_ret (v := .tuple #[.agg #[.int .i64 0, .slice none 0 0, .slice none 0 0, .int .i64 0], .bool false]) (by simp [results, Try.results154, go_sem]) rfl ⟨none, 0, rfl, ⟨rfl, fun h => absurd h (by simp)⟩, (by repeat (first | exact Below.refl _ _ | refine Below.setCell ?_ (by simp <;> omega) _ | refine Below.alloc ?_ (by simp <;> omega) _ | refine below_drewN ?_ _ | refine Below.drew ?_))⟩
  case true =>
  by_cases h12 : es.length ≤ 12
  case neg =>
    have h0 := startOk_no2 (k := k) h12
    rw [(start_no h0).1, (start_no h0).2, h0]
    have h12' : (12 : Int) < (es.length : Int) := by omega
    clear hx h0
    go_enter Try.func154, Try.ntmps154
    go_wp2_with fail
    refine (h1.out _).mono ?_
    rintro e w1 ⟨rfl, rfl⟩
    go_wp2_with fail
    refine bodyPost_ret (v := .tuple #[.agg #[.int .i64 0, .slice none 0 0, .slice none 0 0, .int .i64 0], .bool false]) (by simp [results, Try.results154, go_sem]) rfl ⟨none, 0, rfl, ⟨rfl, fun h => absurd h (by simp)⟩, (by repeat (first | exact Below.refl _ _ | refine Below.setCell ?_ (by simp <;> omega) _ | refine Below.alloc ?_ (by simp <;> omega) _ | refine below_drewN ?_ _ | refine Below.drew ?_))⟩
  case pos =>
  have h12' : ¬ ((12 : Int) < (es.length : Int)) := by omega
  have h0 := startOk_yes (es := es) hx.symm h12
  obtain ⟨q, hq⟩ : ∃ q, q = es.any (fun r => !M.SidesOk k r) := ⟨_, rfl⟩
  rw [← hq] at h0
  have HQ := Lib.hid hq
  have HNO := Lib.hid (fun (h : q = true) => show M.startK k es = 0 ∧ M.startQ k es = [] ∧ M.startOk k es = false from ⟨(start_no (by rw [h0, h]; rfl)).1, (start_no (by rw [h0, h]; rfl)).2, by rw [h0, h]; rfl⟩)
  have HYES := Lib.hid (fun (h : q = false) => show M.startK k es = k ∧ M.startQ k es = es ∧ M.startOk k es = true from ⟨(start_yes (by rw [h0, h]; rfl)).1, (start_yes (by rw [h0, h]; rfl)).2, by rw [h0, h]; rfl⟩)
  obtain ⟨sk, hsk⟩ : ∃ sk, sk = M.startK k es := ⟨_, rfl⟩
  obtain ⟨sq, hsq⟩ : ∃ sq, sq = M.startQ k es := ⟨_, rfl⟩
  obtain ⟨so, hso⟩ : ∃ so, so = M.startOk k es := ⟨_, rfl⟩
  rw [← hsk, ← hsq, ← hso] at HNO HYES
  rw [← hsk, ← hsq, ← hso]
  obtain ⟨n, hn⟩ : ∃ n, n = es.length := ⟨_, rfl⟩
  have HN := Lib.hid hn
  have hnb : n ≤ 12 := by omega
  rw [← hn] at HA h12' ⊢
  clear hx hq h0 hsk hsq hso hn h12 hl
  go_enter Try.func154, Try.ntmps154
  go_wp2_with fail
  refine (h1.out _).mono ?_
  rintro e w1 ⟨rfl, rfl⟩
  go_wp2_with fail
  obtain ⟨w1, hw1⟩ : ∃ w1 : World, w1 = w.alloc (.cells #[.int .i64 0, .slice none 0 0, .slice none 0 0, .int .i64 0] 60) := ⟨_, rfl⟩
  have D0 := Lib.hid (show w1.cell? ⟨w.heap.size, 0, none⟩ = some (.int .i64 0) by rw [hw1]; simp [go_sem])
  have F0 := Lib.hid (show w1.frozen? ⟨w.heap.size, 0, none⟩ = false by rw [hw1]; simp [go_sem])
  have D1 := Lib.hid (show w1.cell? ⟨w.heap.size, 1, none⟩ = some (.slice none 0 0) by rw [hw1]; simp [go_sem])
  have F1 := Lib.hid (show w1.frozen? ⟨w.heap.size, 1, none⟩ = false by rw [hw1]; simp [go_sem])
  have D2 := Lib.hid (show w1.cell? ⟨w.heap.size, 2, none⟩ = some (.slice none 0 0) by rw [hw1]; simp [go_sem])
  have F2 := Lib.hid (show w1.frozen? ⟨w.heap.size, 2, none⟩ = false by rw [hw1]; simp [go_sem])
  have D3 := Lib.hid (show w1.cell? ⟨w.heap.size, 3, none⟩ = some (.int .i64 0) by rw [hw1]; simp [go_sem])
  have F3 := Lib.hid (show w1.frozen? ⟨w.heap.size, 3, none⟩ = false by rw [hw1]; simp [go_sem])
  have HB0 := Lib.hid (show Below w.heap.size w w1 by rw [hw1]; exact (Below.refl _ _).alloc (Nat.le_refl _) _)
  have HS1 := Lib.hid (show w.heap.size + 1 ≤ w1.heap.size by rw [hw1]; simp)
  have HA1 := Lib.hid (HA.out.below HB0.out)
  rw [← hw1]
  clear hw1
  go_loopw [19] (fun z wr => ∃ j : Nat, j ≤ n ∧ z = .int .i64 j ∧ (es.drop j).any (fun r => !M.SidesOk k r) = q ∧ Below w1.heap.size w1 wr) (fun z _ => n - (intOf z).toNat)
  case atStart => exact ⟨0, by omega, rfl, by rw [List.drop_zero, HQ.out], Below.refl _ _⟩
  case round =>
    obtain ⟨j, hj, rfl, hf, hb⟩ := hrel
    have HB := Lib.hid hb
    have hws := Nat.le_trans HS1.out hb.size
    by_cases hlt : j < n
    case neg =>
      have e : q = false := by rw [List.drop_eq_nil_of_le (by have := HN.out; omega)] at hf; exact hf.symm
      obtain ⟨e1, e2, e3⟩ := HYES.out e
      have d0 := cellKeep hb D0.out
      have f0 := frozenKeep hb D0.out F0.out
      have d1 := cellKeep hb D1.out
      have f1 := frozenKeep hb D1.out F1.out
      have d2 := cellKeep hb D2.out
      have f2 := frozenKeep hb D2.out F2.out
      have d3 := cellKeep hb D3.out
      have f3 := frozenKeep hb D3.out F3.out
      have HD := Lib.hid (And.intro d0 (And.intro d1 (And.intro d2 d3)))
      have HFR := Lib.hid (And.intro f0 (And.intro f1 (And.intro f2 f3)))
      have HA2 := Lib.hid (fun o => (HA1.out.below HB.out).below ((Below.refl wr.heap.size wr).alloc (Nat.le_refl _) o))
      have HE := Lib.hid (And.intro e1 (And.intro e2 e3))
      have hle := HN.out
      clear hf hb d0 d1 d2 d3 f0 f1 f2 f3 e e1 e2 e3
      go_wp2_with (at_builtin; refine push_many rfl _ _ rfl slRule rfl (World.ownsRow_lit wr #[] 0 (Nat.le_refl _) (by simp [maxLen]) (by simp)) rfl (HA2.out _) (ruls_one' es) ((Below.refl _ _).alloc (Nat.le_refl _) _) rfl (by omega) ?_; intro A2 c2 w2 hown2 hb2; obtain ⟨d0, d1, d2, d3⟩ := HD.out; obtain ⟨f0, f1, f2, f3⟩ := HFR.out; replace f0 := frozenKeep hb2 d0 f0; replace f1 := frozenKeep hb2 d1 f1; replace f2 := frozenKeep hb2 d2 f2; replace f3 := frozenKeep hb2 d3 f3; replace d0 := cellKeep hb2 d0; replace d1 := cellKeep hb2 d1; replace d2 := cellKeep hb2 d2; replace d3 := cellKeep hb2 d3; have HO2 := Lib.hid hown2; have HB2 := Lib.hid hb2; clear hown2 hb2)
      obtain ⟨e1, e2, e3⟩ := HE.out
      have HOO := Lib.hid ((Own.of_row HO2.out).mono (base' := w.heap.size + 1) (by omega))
      rw [Nat.zero_add] at HOO
      refine bodyPost_ret (v := .tuple #[.agg #[.int .i64 k, .slice none 0 0, .slice A2 n c2, .int .i64 0], .bool true]) ?_ rfl ⟨A2, c2, by rw [e1, e2, e3, ← hle], ?_, ?_⟩
      · simp [results, Try.results154, go_sem, cell_set_ne, set_some, isSome_keep, some_of d0, some_of d1, some_of d2, some_of d3]
        exact hle.symm
      · rw [e2, ← hle]
        exact (((((HOO.out).setLow (by omega)).setLow (by omega)).setLow (by omega)).setLow (by omega)).mono (by omega)
      · exact ((((HB0.out.trans ((HB.out.trans (HB2.out.mono HB.out.size)).mono HB0.out.size)).setCell (by simp <;> omega) _).setCell (by simp <;> omega) _).setCell (by simp <;> omega) _).setCell (by simp <;> omega) _
    case pos =>
      obtain ⟨b, o, hadd, hz, hc1, hc2⟩ := (HA1.out.below hb).ruleAt (k := j) hlt
      injection hadd with hadd
      subst hadd
      have hd : (es.drop j).any (fun r => !M.SidesOk k r) = (!M.SidesOk k es[j] || (es.drop (j + 1)).any (fun r => !M.SidesOk k r)) := by rw [List.drop_eq_getElem_cons hz, List.any_cons]
      have hsz := HS.out es[j] (List.getElem_mem hz)
      have HF2 := Lib.hid (hd.symm.trans hf)
      generalize es[j] = r at *
      obtain ⟨rl, rr⟩ := r
      simp only at hc1 hc2 hsz
      have HC := Lib.hid (fun W => spec_SidesOk_c k rl rr W hsz.1 hsz.2)
      have d0 := cellKeep hb D0.out
      have f0 := frozenKeep hb D0.out F0.out
      have d1 := cellKeep hb D1.out
      have f1 := frozenKeep hb D1.out F1.out
      have d2 := cellKeep hb D2.out
      have f2 := frozenKeep hb D2.out F2.out
      have d3 := cellKeep hb D3.out
      have f3 := frozenKeep hb D3.out F3.out
      have HD := Lib.hid (And.intro d0 (And.intro d1 (And.intro d2 d3)))
      have HFR := Lib.hid (And.intro f0 (And.intro f1 (And.intro f2 f3)))
      generalize M.SidesOk k ⟨rl, rr⟩ = x at *
      clear hd hf hb hsz d0 d1 d2 d3 f0 f1 f2 f3
      cases x
      case true =>
        have HE := Lib.hid (show (es.drop (j + 1)).any (fun r => !M.SidesOk k r) = q by have h := HF2.out; simpa using h)
        go_wp2_with fail
        refine (HC.out _).mono ?_
        rintro e w2 ⟨rfl, hb2⟩
        go_wp2_with fail
        go_roundw
        case rel => exact ⟨j + 1, by omega, by go_num, HE.out, HB.out.trans ((below_alloc1 hb2).mono HB.out.size)⟩
        case measure => simp [intOf] <;> omega
      case false =>
        obtain ⟨e1, e2, e3⟩ := HNO.out (show q = true by rw [← HF2.out]; rfl)
        have HE := Lib.hid (And.intro e1 (And.intro e2 e3))
        clear e1 e2 e3
        go_wp2_with fail
        refine (HC.out _).mono ?_
        rintro e w2 ⟨rfl, hb2⟩
        have hb3 := below_alloc1 hb2
        obtain ⟨d0, d1, d2, d3⟩ := HD.out
        obtain ⟨f0, f1, f2, f3⟩ := HFR.out
        replace f0 := frozenKeep hb3 d0 f0
        replace f1 := frozenKeep hb3 d1 f1
        replace f2 := frozenKeep hb3 d2 f2
        replace f3 := frozenKeep hb3 d3 f3
        replace d0 := cellKeep hb3 d0
        replace d1 := cellKeep hb3 d1
        replace d2 := cellKeep hb3 d2
        replace d3 := cellKeep hb3 d3
        have HB3 := Lib.hid hb3
        clear hb2 hb3
        go_wp2_with fail
        obtain ⟨e1, e2, e3⟩ := HE.out
        refine bodyPost_ret (v := .tuple #[.agg #[.int .i64 0, .slice none 0 0, .slice none 0 0, .int .i64 0], .bool false]) ?_ rfl ⟨none, 0, by rw [e1, e2, e3]; rfl, by rw [e2]; exact ⟨rfl, fun h => absurd h (by simp)⟩, ?_⟩
        · simp [results, Try.results154, go_sem, cell_set_ne, set_some, isSome_keep, some_of d0, some_of d1, some_of d2, some_of d3]
        · exact ((((HB0.out.trans ((HB.out.trans (HB3.out.mono HB.out.size)).mono HB0.out.size)).setCell (by simp <;> omega) _).setCell (by simp <;> omega) _).setCell (by simp <;> omega) _).setCell (by simp <;> omega) _
set_option maxRecDepth 100000 in
set_option maxHeartbeats 4000000 in
theorem impl_StartWork_c (k : Int) (ad : Addr) (c : Nat) (es : List M.Rule) (w : World) (hA : Rd w 2 (some ad) es.length (ruls es)) (hl : es.length ≤ 1048576) (hs : ∀ r ∈ es, r.left.length ≤ 1048576 ∧ r.right.length ≤ 1048576) :
    Calls Try.prog 57 #[.int .i64 k, .slice (some ad) es.length c] w (RetStart (M.startK k es) (M.startQ k es) (M.startOk k es) w) := by
  have h1 := Lib.hid (fun W => within_c k 1 4 W)
  have h2 := Lib.hid (fun b0 W h hc => ContainsFuncStartWork1_c b0 (fun r => !M.SidesOk k r) (some ad) c es W h hl hc)
  have h3 := Lib.hid (fun W h => cloneRule_c ad c es W h hl)
  have HA := Lib.hid hA
  have HS := Lib.hid hs
  have hmf : ∀ (fn : Fn) (first cap : Array Value) (w : World), (Instr.makeFunc fn first cap).run Try.prog w = .ok (.func fn first cap) w := fun _ _ _ _ => rfl
  clear hA hs
  obtain ⟨x, hx⟩ : ∃ x, x = M.within k 1 4 := ⟨_, rfl⟩
  rw [← hx] at h1
  cases x
  case false =>
    have h0 := startOk_no1 (es := es) hx.symm
    rw [(start_no h0).1, (start_no h0).2, h0]
    clear hx h0
    go_enter Try.func57, Try.ntmps57
    go_wp2_with fail
    refine (h1.out _).mono ?_
    rintro e w1 ⟨rfl, rfl⟩
    go_wp2_with fail
    refine bodyPost_ret (v := .tuple #[.agg #[.int .i64 0, .slice none 0 0, .slice none 0 0, .int .i64 0], .bool false]) (by simp [results, Try.results57, go_sem]) rfl ⟨none, 0, rfl, ⟨rfl, fun h => absurd h (by simp)⟩, (by repeat (first | exact Below.refl _ _ | refine Below.setCell ?_ (by simp <;> omega) _ | refine Below.alloc ?_ (by simp <;> omega) _ | refine below_drewN ?_ _ | refine Below.drew ?_))⟩
  case true =>
  by_cases h12 : es.length ≤ 12
  case neg =>
    have h0 := startOk_no2 (k := k) h12
    rw [(start_no h0).1, (start_no h0).2, h0]
    have h12' : (12 : Int) < (es.length : Int) := by omega
    clear hx h0
    go_enter Try.func57, Try.ntmps57
    go_wp2_with fail
    refine (h1.out _).mono ?_
    rintro e w1 ⟨rfl, rfl⟩
    go_wp2_with fail
    refine bodyPost_ret (v := .tuple #[.agg #[.int .i64 0, .slice none 0 0, .slice none 0 0, .int .i64 0], .bool false]) (by simp [results, Try.results57, go_sem]) rfl ⟨none, 0, rfl, ⟨rfl, fun h => absurd h (by simp)⟩, (by repeat (first | exact Below.refl _ _ | refine Below.setCell ?_ (by simp <;> omega) _ | refine Below.alloc ?_ (by simp <;> omega) _ | refine below_drewN ?_ _ | refine Below.drew ?_))⟩
  case pos =>
  have h12' : ¬ ((12 : Int) < (es.length : Int)) := by omega
  have h0 := startOk_yes (es := es) hx.symm h12
  obtain ⟨q, hq⟩ : ∃ q, q = es.any (fun r => !M.SidesOk k r) := ⟨_, rfl⟩
  rw [← hq] at h0 h2
  clear hx hq h12
  cases q
  case true =>
    have h0 : M.startOk k es = false := h0
    rw [(start_no h0).1, (start_no h0).2, h0]
    clear h0
    go_enter Try.func57, Try.ntmps57
    go_wp2_with fail
    refine (h1.out _).mono ?_
    rintro e w1 ⟨rfl, rfl⟩
    go_wp2_with fail
    refine (h2.out w.heap.size _ (HA.out.below (by repeat (first | exact Below.refl _ _ | refine Below.setCell ?_ (by simp <;> omega) _ | refine Below.alloc ?_ (by simp <;> omega) _ | refine below_drewN ?_ _ | refine Below.drew ?_))) (fun W hW r hr => StartWork1_c k w.heap.size r W (cellKeep hW (by simp [go_sem])) (HS.out r hr))).mono ?_
    rintro e w1 ⟨rfl, hb⟩
    have d0 : w1.cell? ⟨w.heap.size + 1, 0, none⟩ = some (.int .i64 0) := cellKeep hb (by simp [go_sem])
    have f0 : w1.frozen? ⟨w.heap.size + 1, 0, none⟩ = false := ((bcell hb).2 _ _ (by simp)).trans (by simp [go_sem])
    have d1 : w1.cell? ⟨w.heap.size + 1, 1, none⟩ = some (.slice none 0 0) := cellKeep hb (by simp [go_sem])
    have f1 : w1.frozen? ⟨w.heap.size + 1, 1, none⟩ = false := ((bcell hb).2 _ _ (by simp)).trans (by simp [go_sem])
    have d2 : w1.cell? ⟨w.heap.size + 1, 2, none⟩ = some (.slice none 0 0) := cellKeep hb (by simp [go_sem])
    have f2 : w1.frozen? ⟨w.heap.size + 1, 2, none⟩ = false := ((bcell hb).2 _ _ (by simp)).trans (by simp [go_sem])
    have d3 : w1.cell? ⟨w.heap.size + 1, 3, none⟩ = some (.int .i64 0) := cellKeep hb (by simp [go_sem])
    have f3 : w1.frozen? ⟨w.heap.size + 1, 3, none⟩ = false := ((bcell hb).2 _ _ (by simp)).trans (by simp [go_sem])
    have HB := Lib.hid (below_alloc2 hb)
    clear hb
    go_wp2_with fail
    refine bodyPost_ret (v := .tuple #[.agg #[.int .i64 0, .slice none 0 0, .slice none 0 0, .int .i64 0], .bool false]) ?_ rfl ⟨none, 0, rfl, ⟨rfl, fun h => absurd h (by simp)⟩, ?_⟩
    · simp [results, Try.results57, go_sem, cell_set_ne, set_some, isSome_keep, some_of d0, some_of d1, some_of d2, some_of d3]
    · exact (((HB.out.setCell (by simp <;> omega) _).setCell (by simp <;> omega) _).setCell (by simp <;> omega) _).setCell (by simp <;> omega) _
  case false =>
    have h0 : M.startOk k es = true := h0
    rw [(start_yes h0).1, (start_yes h0).2, h0]
    clear h0
    go_enter Try.func57, Try.ntmps57
    go_wp2_with fail
    refine (h1.out _).mono ?_
    rintro e w1 ⟨rfl, rfl⟩
    go_wp2_with fail
    refine (h2.out w.heap.size _ (HA.out.below (by repeat (first | exact Below.refl _ _ | refine Below.setCell ?_ (by simp <;> omega) _ | refine Below.alloc ?_ (by simp <;> omega) _ | refine below_drewN ?_ _ | refine Below.drew ?_))) (fun W hW r hr => StartWork1_c k w.heap.size r W (cellKeep hW (by simp [go_sem])) (HS.out r hr))).mono ?_
    rintro e w1 ⟨rfl, hb⟩
    have d0 : w1.cell? ⟨w.heap.size + 1, 0, none⟩ = some (.int .i64 0) := cellKeep hb (by simp [go_sem])
    have f0 : w1.frozen? ⟨w.heap.size + 1, 0, none⟩ = false := ((bcell hb).2 _ _ (by simp)).trans (by simp [go_sem])
    have d1 : w1.cell? ⟨w.heap.size + 1, 1, none⟩ = some (.slice none 0 0) := cellKeep hb (by simp [go_sem])
    have f1 : w1.frozen? ⟨w.heap.size + 1, 1, none⟩ = false := ((bcell hb).2 _ _ (by simp)).trans (by simp [go_sem])
    have d2 : w1.cell? ⟨w.heap.size + 1, 2, none⟩ = some (.slice none 0 0) := cellKeep hb (by simp [go_sem])
    have f2 : w1.frozen? ⟨w.heap.size + 1, 2, none⟩ = false := ((bcell hb).2 _ _ (by simp)).trans (by simp [go_sem])
    have d3 : w1.cell? ⟨w.heap.size + 1, 3, none⟩ = some (.int .i64 0) := cellKeep hb (by simp [go_sem])
    have f3 : w1.frozen? ⟨w.heap.size + 1, 3, none⟩ = false := ((bcell hb).2 _ _ (by simp)).trans (by simp [go_sem])
    have k0 : w1.cell? ⟨w.heap.size, 0, none⟩ = some (.int .i64 k) := cellKeep hb (by simp [go_sem])
    have HB := Lib.hid (below_alloc2 hb)
    have HS1 := Lib.hid (show w.heap.size + 2 ≤ w1.heap.size by have h := hb.size; (try simp at h); omega)
    have HD := Lib.hid (And.intro d0 (And.intro d1 (And.intro d2 (And.intro d3 k0))))
    have HFR := Lib.hid (And.intro f0 (And.intro f1 (And.intro f2 f3)))
    have HA1 := Lib.hid (HA.out.below HB.out)
    clear hb d0 d1 d2 d3 f0 f1 f2 f3
    go_wp2_with fail
    go_region_with (go_at_call 101; refine (h3.out _ (HA1.out.below (by first | exact (Below.refl _ _).drew | exact Below.refl _ _))).mono ?_; rintro e wc ⟨Ac, cc, rfl, hown, hbc⟩; have d0 := cellKeep hbc HD.out.1; have d1 := cellKeep hbc HD.out.2.1; have d2 := cellKeep hbc HD.out.2.2.1; have d3 := cellKeep hbc HD.out.2.2.2.1; have kk := cellKeep hbc HD.out.2.2.2.2; have f0 := frozenKeep hbc HD.out.1 HFR.out.1; have f1 := frozenKeep hbc HD.out.2.1 HFR.out.2.1; have f2 := frozenKeep hbc HD.out.2.2.1 HFR.out.2.2.1; have f3 := frozenKeep hbc HD.out.2.2.2.1 HFR.out.2.2.2)
    all_goals
      have HO := Lib.hid (Own.of_row hown)
      have HBC := Lib.hid hbc
      clear hown hbc
      try go_wp2_with fail
      refine bodyPost_ret (v := .tuple #[.agg #[.int .i64 k, .slice none 0 0, .slice Ac es.length cc, .int .i64 0], .bool true]) ?_ rfl ⟨Ac, cc, rfl, ?_, ?_⟩
      · simp [results, Try.results57, go_sem, cell_set_ne, set_some, isSome_keep, some_of d0, some_of d1, some_of d2, some_of d3]
      · exact (((((HO.out.mono (base' := w.heap.size + 2) (by have h := HS1.out; first | exact h | (simp; omega))).setLow (by omega)).setLow (by omega)).setLow (by omega)).setLow (by omega)).mono (by omega)
      · exact ((((HB.out.trans ((Below.drew (Below.refl w1.heap.size w1)).trans HBC.out |>.mono HB.out.size)).setCell (by simp <;> omega) _).setCell (by simp <;> omega) _).setCell (by simp <;> omega) _).setCell (by simp <;> omega) _

end Go.Proofs.Ytlohpphmamapeaa
/-
  A work copied: the contract of l06Copy of the reference.
  Conditions: at most 2^20 rules, equations.
-/
namespace Go.Proofs.Ytlohpphmamapeaa
open Go.RowKit
set_option linter.unusedVariables false
set_option linter.unusedSimpArgs false

section
variable {P : Program} {ops : Array Oper} {o : Oper} {a : Act} {Q : Exit → Act → World → Prop} {W : World}
/-- A slice appended to an empty literal, in a region. -/
theorem step_from_lit {K : Act → World → Prop} {E : Prop} (hgd : o.guard = none) (s x : Operand) {t : TypeId} (ho : o.op = .call { callee := .builtin .append, args := #[s, x], argTypes := #[t, t] }) {e : TypeId} {size : Nat} (T : SlT P t e size)
    {A : Option Addr} (hs : a.eval s = .slice A 0 0) {us : List Value} {X : Option Addr} {m d : Nat} (hx : a.eval x = .slice X m d) (hrd : Rd W size X m us) (h1 : ∀ u ∈ us, u.oneCell' = true) (hm : m ≤ 1099511627776)
    (h : ∀ A' c' w', OwnS w' W.heap.size e size A' m c' us → Below W.heap.size W w' → K (a.put o.dst (.slice A' m c')) w') : if Region.wanted o (yielded ops a.tmps) = true then Oper.wp P o a W K Q else E := by
  refine step_push_off hgd s x ho T hs (base := W.heap.size) (xs := []) ⟨by simp, Nat.le_refl _, by simp [maxLen], fun h => by omega⟩ hx hrd h1 (Nat.le_refl _) (by omega) ?_
  intro A' c' w' ho' hg _
  have h2 := h A' c' w'
  rw [← Nat.zero_add m] at h2
  exact h2 ho' ((Below.refl _ _).grown hg (Nat.le_refl _) (by simp [blkS]))
end
theorem below_al {w wr : World} (hb : Below w.heap.size w wr) (o : Obj) : Below w.heap.size w (wr.alloc o) := hb.alloc hb.size o
theorem ref_al (wr : World) (o : Obj) : Below wr.heap.size wr (wr.alloc o) := (Below.refl _ _).alloc (Nat.le_refl _) o

/-- A work copied. -/
def RetCopy (e : TypeId) (k : Int) (rs qs : List M.Rule) (t : Int) (w : World) (x : Ending) (w' : World) : Prop :=
  ∃ A c B d, x = .returned (.agg #[.int .i64 k, .slice A rs.length c, .slice B qs.length d, .int .i64 t]) ∧ OwnS w' w.heap.size e 2 A rs.length c (ruls rs) ∧ OwnS w' w.heap.size e 2 B qs.length d (ruls qs) ∧ (∀ g, blkS A c = some g → blkS B d ≠ some g) ∧ Below w.heap.size w w'
/-- What stands while a work is copied: the work in its cell, and the cell of the result. -/
def CopyS (w wr : World) (k : Int) (A : Option Addr) (n c : Nat) (B : Option Addr) (m d : Nat) (t : Int) : Prop :=
  (wr.cell? ⟨w.heap.size, 0, none⟩ = some (.int .i64 k) ∧ wr.cell? ⟨w.heap.size, 1, none⟩ = some (.slice A n c) ∧ wr.cell? ⟨w.heap.size, 2, none⟩ = some (.slice B m d) ∧ wr.cell? ⟨w.heap.size, 3, none⟩ = some (.int .i64 t)) ∧
  (wr.cell? ⟨w.heap.size + 1, 0, none⟩ = some (.int .i64 0) ∧ wr.cell? ⟨w.heap.size + 1, 1, none⟩ = some (.slice none 0 0) ∧ wr.cell? ⟨w.heap.size + 1, 2, none⟩ = some (.slice none 0 0) ∧ wr.cell? ⟨w.heap.size + 1, 3, none⟩ = some (.int .i64 0)) ∧
  (wr.frozen? ⟨w.heap.size + 1, 0, none⟩ = false ∧ wr.frozen? ⟨w.heap.size + 1, 1, none⟩ = false ∧ wr.frozen? ⟨w.heap.size + 1, 2, none⟩ = false ∧ wr.frozen? ⟨w.heap.size + 1, 3, none⟩ = false) ∧ w.heap.size + 2 ≤ wr.heap.size ∧ Below w.heap.size w wr
section
variable {w wr w' : World} {k t : Int} {A B : Option Addr} {n c m d : Nat}
theorem CopyS.keep (h : CopyS w wr k A n c B m d t) (hb : Below (w.heap.size + 2) wr w') (hz : wr.heap.size ≤ w'.heap.size) : CopyS w w' k A n c B m d t := by
  obtain ⟨⟨a0, a1, a2, a3⟩, ⟨b0, b1, b2, b3⟩, ⟨f0, f1, f2, f3⟩, hs, hB⟩ := h
  have q0 : w.heap.size < w.heap.size + 2 := by omega
  have q1 : w.heap.size + 1 < w.heap.size + 2 := by omega
  have fz := fun (o : Nat) => hb.frozen (p := ⟨w.heap.size + 1, o, none⟩) q1
  exact ⟨⟨cellBelow hb q0 a0, cellBelow hb q0 a1, cellBelow hb q0 a2, cellBelow hb q0 a3⟩, ⟨cellBelow hb q1 b0, cellBelow hb q1 b1, cellBelow hb q1 b2, cellBelow hb q1 b3⟩, ⟨(fz 0).trans f0, (fz 1).trans f1, (fz 2).trans f2, (fz 3).trans f3⟩, by omega, hB.trans (hb.mono (by omega))⟩
theorem CopyS.below (h : CopyS w wr k A n c B m d t) (hb : Below wr.heap.size wr w') : CopyS w w' k A n c B m d t := h.keep (hb.mono h.2.2.2.1) hb.size
theorem OwnS.type {base size : Nat} {e : TypeId} {xs : List Value} (h : OwnS wr base e size A n c xs) {g : Nat} (hg : blkS A c = some g) : ∃ cur, wr.heap[g]? = some (.cells cur e (0, 0)) := by
  obtain ⟨hc, ad, rfl, rfl⟩ := blkS_some hg
  obtain ⟨g, off, cur, h1, h2, h3, _⟩ := h.2.2.2 hc
  injection h1 with h1
  subst h1
  exact ⟨cur, h3⟩
theorem CopyS.stored (h : CopyS w wr k A n c B m d t) {A7 : Option Addr} {c7 g : Nat} {us : List Value} (ho : OwnS wr (w.heap.size + 2) 84 2 A7 n c7 us) (hG : wr.heap[g]? = some (.cells #[.int .i64 0, .slice none 0 0] 28 (0, 0))) (hg : w.heap.size + 2 ≤ g) :
    CopyS w ((wr.setCell ⟨g, 0, none⟩ (.int .i64 k)).setCell ⟨g, 1, none⟩ (.slice A7 n c7)) k A n c B m d t ∧ OwnS ((wr.setCell ⟨g, 0, none⟩ (.int .i64 k)).setCell ⟨g, 1, none⟩ (.slice A7 n c7)) (w.heap.size + 2) 84 2 A7 n c7 us ∧
    ((wr.setCell ⟨g, 0, none⟩ (.int .i64 k)).setCell ⟨g, 1, none⟩ (.slice A7 n c7)).cell? ⟨g, 0, none⟩ = some (.int .i64 k) ∧ ((wr.setCell ⟨g, 0, none⟩ (.int .i64 k)).setCell ⟨g, 1, none⟩ (.slice A7 n c7)).cell? ⟨g, 1, none⟩ = some (.slice A7 n c7) := by
  have d0 : wr.cell? ⟨g, 0, none⟩ = some (.int .i64 0) := (cell_of_row wr g 0 _ _ _ hG).trans rfl
  have d1 : wr.cell? ⟨g, 1, none⟩ = some (.slice none 0 0) := (cell_of_row wr g 1 _ _ _ hG).trans rfl
  have hne : ∀ x, blkS A7 c7 = some x → x ≠ g := fun x hx e => by
    subst e
    obtain ⟨cur, h1⟩ := ho.type hx
    rw [hG] at h1
    simp at h1
  have gr : ∀ (W : World) (o : Nat) (u : Value), W.grownBy (W.setCell ⟨g, o, none⟩ u) (some g) := fun W o u => ⟨rfl, rfl, rfl, by simp, fun k _ hk => heap_setCell_other W ⟨g, o, none⟩ k u (fun e => hk (by simp [e]))⟩
  have hne' : ∀ x, blkS A7 c7 = some x → some x ≠ some g := fun x hx e => hne x hx (by injection e)
  exact ⟨h.keep (((Below.refl _ _).setCell hg _).setCell hg _) (by simp), (ho.grown (gr _ _ _) hne').grown (gr _ _ _) hne', (cell_set_ne _ (Or.inr (by decide))).trans (cell_set_eq _ d0), cell_two' d1 _ _⟩
def CopyM (w wr : World) (k : Int) (A : Option Addr) (n c : Nat) (B : Option Addr) (m d : Nat) (t : Int) (g : Nat) (A7 : Option Addr) (c7 : Nat) (us : List Value) : Prop :=
  CopyS w wr k A n c B m d t ∧ OwnS wr (w.heap.size + 2) 84 2 A7 n c7 us ∧ wr.cell? ⟨g, 0, none⟩ = some (.int .i64 k) ∧ wr.cell? ⟨g, 1, none⟩ = some (.slice A7 n c7)
theorem CopyM.below {g : Nat} {A7 : Option Addr} {c7 : Nat} {us : List Value} (h : CopyM w wr k A n c B m d t g A7 c7 us) (hb : Below wr.heap.size wr w') : CopyM w w' k A n c B m d t g A7 c7 us := ⟨h.1.below hb, h.2.1.below hb, cellKeep hb h.2.2.1, cellKeep hb h.2.2.2⟩
theorem CopyM.tab {g : Nat} {A7 : Option Addr} {c7 : Nat} {us : List Value} (h : CopyM w wr k A n c B m d t g A7 c7 us) : wr.cell? ⟨w.heap.size, 2, none⟩ = some (.slice B m d) ∧ wr.cell? ⟨w.heap.size, 3, none⟩ = some (.int .i64 t) ∧ wr.cell? ⟨g, 0, none⟩ = some (.int .i64 k) ∧ wr.cell? ⟨g, 1, none⟩ = some (.slice A7 n c7) := ⟨h.1.1.2.2.1, h.1.1.2.2.2, h.2.2.1, h.2.2.2⟩
end
set_option maxRecDepth 100000 in
set_option maxHeartbeats 8000000 in
theorem l06Copy_c (k : Int) (A : Option Addr) (c : Nat) (rs : List M.Rule) (B : Option Addr) (d : Nat) (qs : List M.Rule) (t : Int) (w : World) (hA : Rd w 2 A rs.length (ruls rs)) (hB : Rd w 2 B qs.length (ruls qs)) (hl : rs.length ≤ 1048576) (hq : qs.length ≤ 1048576) :
    Calls Try.prog 95 #[.agg #[.int .i64 k, .slice A rs.length c, .slice B qs.length d, .int .i64 t]] w (RetCopy 84 k rs qs t w) := by
  have HA := Lib.hid hA
  have HB := Lib.hid hB
  unfold RetCopy
  have ho1 := ruls_one' rs
  have ho2 := ruls_one' qs
  generalize ruls rs = us at *
  generalize ruls qs = vs at *
  generalize rs.length = n at *
  generalize qs.length = m at *
  clear hA hB
  go_enter Try.func95, Try.ntmps95
  go_wp2_with fail
  obtain ⟨wr, hwr⟩ : ∃ wr : World, wr = (w.alloc (.cells #[.int .i64 k, .slice A n c, .slice B m d, .int .i64 t] 60)).alloc (.cells #[.int .i64 0, .slice none 0 0, .slice none 0 0, .int .i64 0] 60) := ⟨_, rfl⟩
  have K0 : CopyS w wr k A n c B m d t := by
    rw [hwr]
    exact ⟨⟨by simp [go_sem], by simp [go_sem], by simp [go_sem], by simp [go_sem]⟩, ⟨by simp [go_sem], by simp [go_sem], by simp [go_sem], by simp [go_sem]⟩, ⟨by simp [go_sem], by simp [go_sem], by simp [go_sem], by simp [go_sem]⟩, by simp, below_al (below_al (Below.refl _ _) _) _⟩
  rw [← hwr]
  clear hwr
  have KD := K0.below (Below.refl _ _).drew
  have RD := HA.out.below KD.2.2.2.2
  clear K0
  refine wp_region_U (fun w' => w'.cell? ⟨w.heap.size, 0, none⟩ = some (.int .i64 k) ∧ w'.cell? ⟨w.heap.size, 1, none⟩ = some (.slice A n c) ∧ w'.cell? ⟨w.heap.size, 2, none⟩ = some (.slice B m d) ∧ w'.cell? ⟨w.heap.size, 3, none⟩ = some (.int .i64 t)) 10 (by kernel_rfl) (KD.1) (fun hHeld => ?_)
  refine takeU (i := 0) (v := ?v1) rfl (by kernel_rfl) (fun _ _ _ h => h) (Or.inl ⟨by rfl, ?hy1⟩) (by assumption) ?rest1
  case hy1 => (intro w hSw; (try dsimp only at hSw); (first | (go_simp; done) | (go_simp; with_reducible rfl)))
  case rest1 =>
    try simp only [Act.put, List.setIfInBounds_toArray, List.set_cons_zero, List.set_cons_succ]
    refine takeU (i := 1) (v := ?v2) rfl (by kernel_rfl) (fun _ _ _ h => h) (Or.inl ⟨by rfl, ?hy2⟩) (by assumption) ?rest2
    case hy2 => (intro w hSw; (try dsimp only at hSw); (first | (go_simp; done) | (go_simp; with_reducible rfl)))
    case rest2 =>
      try simp only [Act.put, List.setIfInBounds_toArray, List.set_cons_zero, List.set_cons_succ]
      refine takeU (i := 2) (v := ?v3) rfl (by kernel_rfl) (fun _ _ _ h => h) (Or.inl ⟨by rfl, ?hy3⟩) (by assumption) ?rest3
      case hy3 => (intro w hSw; (try dsimp only at hSw); (first | (go_simp; done) | (go_simp; with_reducible rfl)))
      case rest3 =>
        try simp only [Act.put, List.setIfInBounds_toArray, List.set_cons_zero, List.set_cons_succ]
        refine takeU (i := 4) (v := ?v4) rfl (by kernel_rfl) (fun _ _ _ h => h) (Or.inl ⟨by rfl, ?hy4⟩) (by assumption) ?rest4
        case hy4 => (intro w hSw; (try dsimp only at hSw); (first | (go_simp; done) | (go_simp; with_reducible rfl)))
        case rest4 =>
          try simp only [Act.put, List.setIfInBounds_toArray, List.set_cons_zero, List.set_cons_succ]
          refine takeU (i := 5) (v := ?v5) rfl (by kernel_rfl) (fun _ _ _ h => h) (Or.inl ⟨by rfl, ?hy5⟩) (by assumption) ?rest5
          case hy5 => (intro w hSw; (try dsimp only at hSw); (first | (go_simp; done) | (go_simp; with_reducible rfl)))
          case rest5 =>
            try simp only [Act.put, List.setIfInBounds_toArray, List.set_cons_zero, List.set_cons_succ]
            refine takeU (i := 6) (v := ?v6) rfl (by kernel_rfl) (fun _ _ _ h => h) (Or.inl ⟨by rfl, ?hy6⟩) (by assumption) ?rest6
            case hy6 => (intro w hSw; (try dsimp only at hSw); (first | (go_simp; done) | (go_simp; with_reducible rfl)))
            case rest6 =>
              try simp only [Act.put, List.setIfInBounds_toArray, List.set_cons_zero, List.set_cons_succ]
              refine wpAnyU_ready (rs := [3, 9]) (by kernel_rfl) (by simp) ?_
              refine consU rfl (fun K hK => ?_) ?_
              · go_simp
                have K1 := KD.below (ref_al _ (.cells #[] 84))
                have R1 := RD.below (ref_al _ (.cells #[] 84))
                refine hK.out _ _ (K1.1) (fun hHeld => ?_)
                clear hK K
                try simp only [Act.put, List.setIfInBounds_toArray, List.set_cons_zero, List.set_cons_succ]
                refine wpAnyU_ready (rs := [7, 9]) (by kernel_rfl) (by simp) ?_
                refine consU rfl (fun K hK => ?_) ?_
                · refine step_from_lit rfl (.tmp 7) (.tmp 10) rfl slRule rfl rfl R1 ho1 (by omega) ?_
                  intro A7 c7 w7 hown7 hb7
                  have O0 := hown7.mono (base' := w.heap.size + 2) (by have := K1.2.2.2.1; simp at this ⊢; omega)
                  have K2 := K1.below hb7
                  have R2 := R1.below hb7
                  refine hK.out _ _ (K2.1) (fun hHeld => ?_)
                  clear hK K
                  try simp only [Act.put, List.setIfInBounds_toArray, List.set_cons_zero, List.set_cons_succ]
                  refine takeU (i := 8) (v := ?v7) rfl (by kernel_rfl) (fun _ _ _ h => h) (Or.inl ⟨by rfl, ?hy7⟩) (by assumption) ?rest7
                  case hy7 => (intro w hSw; (try dsimp only at hSw); (first | (go_simp; done) | (go_simp; with_reducible rfl)))
                  case rest7 =>
                    try simp only [Act.put, List.setIfInBounds_toArray, List.set_cons_zero, List.set_cons_succ]
                    refine wpAnyU_ready (rs := [9]) (by kernel_rfl) (by simp) ?_
                    refine consU rfl (fun K hK => ?_) ?_
                    · go_simp
                      have K3 := K2.below (ref_al _ (.cells #[.int .i64 0, .slice none 0 0] 28))
                      have R3 := R2.below (ref_al _ (.cells #[.int .i64 0, .slice none 0 0] 28))
                      have O3 := O0.below (ref_al _ (.cells #[.int .i64 0, .slice none 0 0] 28))
                      have G3 : ((w7.alloc (.cells #[.int .i64 0, .slice none 0 0] 28))).heap[w7.heap.size]? = some (.cells #[.int .i64 0, .slice none 0 0] 28 (0, 0)) := heap_alloc_new _ _
                      refine hK.out _ _ (K3.1) (fun hHeld => ?_)
                      clear hK K
                      try simp only [Act.put, List.setIfInBounds_toArray, List.set_cons_zero, List.set_cons_succ]
                      refine wpAnyU_ready (rs := [10]) (by kernel_rfl) (by simp) ?_
                      refine lastU rfl (fun K hK => ?_)
                      have c0 : ((w7.alloc (.cells #[.int .i64 0, .slice none 0 0] 28))).cell? ⟨w7.heap.size, 0, none⟩ = some (.int .i64 0) := (cell_of_row _ _ 0 _ _ _ G3).trans rfl
                      have c1 : ((w7.alloc (.cells #[.int .i64 0, .slice none 0 0] 28))).cell? ⟨w7.heap.size, 1, none⟩ = some (.slice none 0 0) := (cell_of_row _ _ 1 _ _ _ G3).trans rfl
                      have f0 : ((w7.alloc (.cells #[.int .i64 0, .slice none 0 0] 28))).frozen? ⟨w7.heap.size, 0, none⟩ = false := frozen_of_row _ _ 0 _ _ G3
                      have f1 : ((w7.alloc (.cells #[.int .i64 0, .slice none 0 0] 28))).frozen? ⟨w7.heap.size, 1, none⟩ = false := frozen_of_row _ _ 1 _ _ G3
                      go_simp
                      refine hK.out _ _ ?_
                      clear hK K
                      try simp only [Act.put, List.setIfInBounds_toArray, List.set_cons_zero, List.set_cons_succ]
                      refine wpAnyU_done (by kernel_rfl) ?_ _
                      have MS : CopyM w (w7.alloc (.cells #[.int .i64 k, .slice A7 n c7] 28)) k A n c B m d t w7.heap.size A7 c7 us := ⟨K2.below (ref_al _ _), O0.below (ref_al _ _), by simp [go_sem], by simp [go_sem]⟩
                      obtain ⟨g3, hg3⟩ : ∃ g3, g3 = w7.heap.size := ⟨_, rfl⟩
                      obtain ⟨w8, hw8⟩ : ∃ w8 : World, w8 = w7.alloc (.cells #[.int .i64 k, .slice A7 n c7] 28) := ⟨_, rfl⟩
                      rw [← hw8, ← hg3] at MS
                      rw [← hw8, ← hg3]
                      clear hw8 hg3 c0 c1 f0 f1
                      have MD : CopyM w w8.drew k A n c B m d t g3 A7 c7 us := CopyM.below MS (Below.refl _ _).drew
                      clear MS
                      go_wp2_with fail
                      refine wp_region_U (fun w' => w'.cell? ⟨w.heap.size, 2, none⟩ = some (.slice B m d) ∧ w'.cell? ⟨w.heap.size, 3, none⟩ = some (.int .i64 t) ∧ w'.cell? ⟨g3, 0, none⟩ = some (.int .i64 k) ∧ w'.cell? ⟨g3, 1, none⟩ = some (.slice A7 n c7)) 8 (by kernel_rfl) (MD.tab) (fun hHeld => ?_)
                      refine takeU (i := 0) (v := ?v1001) rfl (by kernel_rfl) (fun _ _ _ h => h) (Or.inl ⟨by rfl, ?hy1001⟩) (by assumption) ?rest1001
                      case hy1001 => (intro w hSw; (try dsimp only at hSw); (first | (go_simp; done) | (go_simp; with_reducible rfl)))
                      case rest1001 =>
                        try simp only [Act.put, List.setIfInBounds_toArray, List.set_cons_zero, List.set_cons_succ]
                        refine takeU (i := 2) (v := ?v1002) rfl (by kernel_rfl) (fun _ _ _ h => h) (Or.inl ⟨by rfl, ?hy1002⟩) (by assumption) ?rest1002
                        case hy1002 => (intro w hSw; (try dsimp only at hSw); (first | (go_simp; done) | (go_simp; with_reducible rfl)))
                        case rest1002 =>
                          try simp only [Act.put, List.setIfInBounds_toArray, List.set_cons_zero, List.set_cons_succ]
                          refine takeU (i := 3) (v := ?v1003) rfl (by kernel_rfl) (fun _ _ _ h => h) (Or.inl ⟨by rfl, ?hy1003⟩) (by assumption) ?rest1003
                          case hy1003 => (intro w hSw; (try dsimp only at hSw); (first | (go_simp; done) | (go_simp; with_reducible rfl)))
                          case rest1003 =>
                            try simp only [Act.put, List.setIfInBounds_toArray, List.set_cons_zero, List.set_cons_succ]
                            refine takeU (i := 5) (v := ?v1004) rfl (by kernel_rfl) (fun _ _ _ h => h) (Or.inl ⟨by rfl, ?hy1004⟩) (by assumption) ?rest1004
                            case hy1004 => (intro w hSw; (try dsimp only at hSw); (first | (go_simp; done) | (go_simp; with_reducible rfl)))
                            case rest1004 =>
                              try simp only [Act.put, List.setIfInBounds_toArray, List.set_cons_zero, List.set_cons_succ]
                              refine takeU (i := 6) (v := ?v1005) rfl (by kernel_rfl) (fun _ _ _ h => h) (Or.inl ⟨by rfl, ?hy1005⟩) (by assumption) ?rest1005
                              case hy1005 => (intro w hSw; (try dsimp only at hSw); (first | (go_simp; done) | (go_simp; with_reducible rfl)))
                              case rest1005 =>
                                try simp only [Act.put, List.setIfInBounds_toArray, List.set_cons_zero, List.set_cons_succ]
                                refine wpAnyU_ready (rs := [1]) (by kernel_rfl) (by simp) ?_
                                refine consU rfl (fun K hK => ?_) ?_
                                · go_simp
                                  have M21 := MD.below (ref_al _ (.cells #[] 84))
                                  refine hK.out _ _ (M21.tab) (fun hHeld => ?_)
                                  clear hK K
                                  try simp only [Act.put, List.setIfInBounds_toArray, List.set_cons_zero, List.set_cons_succ]
                                  refine wpAnyU_ready (rs := [4]) (by kernel_rfl) (by simp) ?_
                                  refine consU rfl (fun K hK => ?_) ?_
                                  · refine step_from_lit rfl (.tmp 14) (.tmp 16) rfl slRule rfl rfl (HB.out.below M21.1.2.2.2.2) ho2 (by omega) ?_
                                    intro A8 c8 w9 hown8 hb8
                                    have LT8 := M21.2.1.lt
                                    have SZ8 := M21.1.2.2.2.1
                                    have M22 := M21.below hb8
                                    refine hK.out _ _ (M22.tab) (fun hHeld => ?_)
                                    clear hK K
                                    try simp only [Act.put, List.setIfInBounds_toArray, List.set_cons_zero, List.set_cons_succ]
                                    refine takeU (i := 7) (v := ?v1006) rfl (by kernel_rfl) (fun _ _ _ h => h) (Or.inl ⟨by rfl, ?hy1006⟩) (by assumption) ?rest1006
                                    case hy1006 => (intro w hSw; (try dsimp only at hSw); (first | (go_simp; done) | (go_simp; with_reducible rfl)))
                                    case rest1006 =>
                                      try simp only [Act.put, List.setIfInBounds_toArray, List.set_cons_zero, List.set_cons_succ]
                                      refine wpAnyU_ready (rs := [8]) (by kernel_rfl) (by simp) ?_
                                      refine lastU rfl (fun K hK => ?_)
                                      obtain ⟨_, ⟨c0, c1, c2, c3⟩, ⟨f0, f1, f2, f3⟩, _, _⟩ := M22.1
                                      go_simp
                                      refine hK.out _ _ ?_
                                      clear hK K
                                      try simp only [Act.put, List.setIfInBounds_toArray, List.set_cons_zero, List.set_cons_succ]
                                      refine wpAnyU_done (by kernel_rfl) ?_ _
                                      have HK := Lib.hid M22
                                      have HO8 := Lib.hid hown8
                                      have HLT := Lib.hid LT8
                                      have HSZ := Lib.hid SZ8
                                      have HC := Lib.hid (And.intro c0 (And.intro c1 (And.intro c2 c3)))
                                      clear hown8 LT8 SZ8
                                      go_wp2_with fail
                                      refine bodyPost_ret (v := .agg #[.int .i64 k, .slice A7 n c7, .slice A8 m c8, .int .i64 t]) ?_ rfl ⟨A7, c7, A8, c8, rfl, ?_, ?_, ?_, ?_⟩
                                      · simp [results, Try.results95, go_sem, cell_set_ne, set_some, isSome_keep, some_of c0, some_of c1, some_of c2, some_of c3]
                                      · exact ((((HK.out.2.1.setLow (by omega)).setLow (by omega)).setLow (by omega)).setLow (by omega)).mono (by omega)
                                      · exact ((((HO8.out.mono (base' := w.heap.size + 2) (by have := HSZ.out; simp at this ⊢; omega)).setLow (by omega)).setLow (by omega)).setLow (by omega)).setLow (by omega) |>.mono (by omega)
                                      · intro g h1 h2
                                        have h3 := (HLT.out g h1).2
                                        have h4 := (HO8.out.lt g h2).1
                                        simp at h3 h4
                                        omega
                                      · exact (((HK.out.1.2.2.2.2.setCell (by simp) _).setCell (by simp) _).setCell (by simp) _).setCell (by simp) _
                                  exact AllU.nil
                                exact AllU.nil
                    exact AllU.nil
                refine consU rfl (fun K hK => ?_) ?_
                · go_simp
                  have K2 := K1.below (ref_al _ (.cells #[.int .i64 0, .slice none 0 0] 28))
                  have R2 := R1.below (ref_al _ (.cells #[.int .i64 0, .slice none 0 0] 28))
                  have G2 : (((wr.drew.alloc (.cells #[] 84)).alloc (.cells #[.int .i64 0, .slice none 0 0] 28))).heap[wr.heap.size + 1]? = some (.cells #[.int .i64 0, .slice none 0 0] 28 (0, 0)) := by rw [show wr.heap.size + 1 = ((wr.drew.alloc (.cells #[] 84))).heap.size by simp]; exact heap_alloc_new _ _
                  refine hK.out _ _ (K2.1) (fun hHeld => ?_)
                  clear hK K
                  try simp only [Act.put, List.setIfInBounds_toArray, List.set_cons_zero, List.set_cons_succ]
                  refine wpAnyU_ready (rs := [7]) (by kernel_rfl) (by simp) ?_
                  refine consU rfl (fun K hK => ?_) ?_
                  · refine step_from_lit rfl (.tmp 7) (.tmp 10) rfl slRule rfl rfl R2 ho1 (by omega) ?_
                    intro A7 c7 w7 hown7 hb7
                    have O0 := hown7.mono (base' := w.heap.size + 2) (by have := K2.2.2.2.1; simp at this ⊢; omega)
                    have K3 := K2.below hb7
                    have R3 := R2.below hb7
                    have G3 := (hb7.block _ (Array.getElem?_eq_some_iff.1 G2).1).trans G2
                    refine hK.out _ _ (K3.1) (fun hHeld => ?_)
                    clear hK K
                    try simp only [Act.put, List.setIfInBounds_toArray, List.set_cons_zero, List.set_cons_succ]
                    refine takeU (i := 8) (v := ?v8) rfl (by kernel_rfl) (fun _ _ _ h => h) (Or.inl ⟨by rfl, ?hy8⟩) (by assumption) ?rest8
                    case hy8 => (intro w hSw; (try dsimp only at hSw); (first | (go_simp; done) | (go_simp; with_reducible rfl)))
                    case rest8 =>
                      try simp only [Act.put, List.setIfInBounds_toArray, List.set_cons_zero, List.set_cons_succ]
                      refine wpAnyU_ready (rs := [10]) (by kernel_rfl) (by simp) ?_
                      refine lastU rfl (fun K hK => ?_)
                      have c0 : (w7).cell? ⟨wr.heap.size + 1, 0, none⟩ = some (.int .i64 0) := (cell_of_row _ _ 0 _ _ _ G3).trans rfl
                      have c1 : (w7).cell? ⟨wr.heap.size + 1, 1, none⟩ = some (.slice none 0 0) := (cell_of_row _ _ 1 _ _ _ G3).trans rfl
                      have f0 : (w7).frozen? ⟨wr.heap.size + 1, 0, none⟩ = false := frozen_of_row _ _ 0 _ _ G3
                      have f1 : (w7).frozen? ⟨wr.heap.size + 1, 1, none⟩ = false := frozen_of_row _ _ 1 _ _ G3
                      go_simp
                      refine hK.out _ _ ?_
                      clear hK K
                      try simp only [Act.put, List.setIfInBounds_toArray, List.set_cons_zero, List.set_cons_succ]
                      refine wpAnyU_done (by kernel_rfl) ?_ _
                      have MS := CopyS.stored K3 O0 G3 (by have := KD.2.2.2.1; simp at this ⊢; omega)
                      obtain ⟨g3, hg3⟩ : ∃ g3, g3 = wr.heap.size + 1 := ⟨_, rfl⟩
                      obtain ⟨w8, hw8⟩ : ∃ w8 : World, w8 = ((w7).setCell ⟨wr.heap.size + 1, 0, none⟩ (.int .i64 k)).setCell ⟨wr.heap.size + 1, 1, none⟩ (.slice A7 n c7) := ⟨_, rfl⟩
                      rw [← hw8, ← hg3] at MS
                      rw [← hw8, ← hg3]
                      clear hw8 hg3 c0 c1 f0 f1
                      have MD : CopyM w w8.drew k A n c B m d t g3 A7 c7 us := CopyM.below MS (Below.refl _ _).drew
                      clear MS
                      go_wp2_with fail
                      refine wp_region_U (fun w' => w'.cell? ⟨w.heap.size, 2, none⟩ = some (.slice B m d) ∧ w'.cell? ⟨w.heap.size, 3, none⟩ = some (.int .i64 t) ∧ w'.cell? ⟨g3, 0, none⟩ = some (.int .i64 k) ∧ w'.cell? ⟨g3, 1, none⟩ = some (.slice A7 n c7)) 8 (by kernel_rfl) (MD.tab) (fun hHeld => ?_)
                      refine takeU (i := 0) (v := ?v2001) rfl (by kernel_rfl) (fun _ _ _ h => h) (Or.inl ⟨by rfl, ?hy2001⟩) (by assumption) ?rest2001
                      case hy2001 => (intro w hSw; (try dsimp only at hSw); (first | (go_simp; done) | (go_simp; with_reducible rfl)))
                      case rest2001 =>
                        try simp only [Act.put, List.setIfInBounds_toArray, List.set_cons_zero, List.set_cons_succ]
                        refine takeU (i := 2) (v := ?v2002) rfl (by kernel_rfl) (fun _ _ _ h => h) (Or.inl ⟨by rfl, ?hy2002⟩) (by assumption) ?rest2002
                        case hy2002 => (intro w hSw; (try dsimp only at hSw); (first | (go_simp; done) | (go_simp; with_reducible rfl)))
                        case rest2002 =>
                          try simp only [Act.put, List.setIfInBounds_toArray, List.set_cons_zero, List.set_cons_succ]
                          refine takeU (i := 3) (v := ?v2003) rfl (by kernel_rfl) (fun _ _ _ h => h) (Or.inl ⟨by rfl, ?hy2003⟩) (by assumption) ?rest2003
                          case hy2003 => (intro w hSw; (try dsimp only at hSw); (first | (go_simp; done) | (go_simp; with_reducible rfl)))
                          case rest2003 =>
                            try simp only [Act.put, List.setIfInBounds_toArray, List.set_cons_zero, List.set_cons_succ]
                            refine takeU (i := 5) (v := ?v2004) rfl (by kernel_rfl) (fun _ _ _ h => h) (Or.inl ⟨by rfl, ?hy2004⟩) (by assumption) ?rest2004
                            case hy2004 => (intro w hSw; (try dsimp only at hSw); (first | (go_simp; done) | (go_simp; with_reducible rfl)))
                            case rest2004 =>
                              try simp only [Act.put, List.setIfInBounds_toArray, List.set_cons_zero, List.set_cons_succ]
                              refine takeU (i := 6) (v := ?v2005) rfl (by kernel_rfl) (fun _ _ _ h => h) (Or.inl ⟨by rfl, ?hy2005⟩) (by assumption) ?rest2005
                              case hy2005 => (intro w hSw; (try dsimp only at hSw); (first | (go_simp; done) | (go_simp; with_reducible rfl)))
                              case rest2005 =>
                                try simp only [Act.put, List.setIfInBounds_toArray, List.set_cons_zero, List.set_cons_succ]
                                refine wpAnyU_ready (rs := [1]) (by kernel_rfl) (by simp) ?_
                                refine consU rfl (fun K hK => ?_) ?_
                                · go_simp
                                  have M21 := MD.below (ref_al _ (.cells #[] 84))
                                  refine hK.out _ _ (M21.tab) (fun hHeld => ?_)
                                  clear hK K
                                  try simp only [Act.put, List.setIfInBounds_toArray, List.set_cons_zero, List.set_cons_succ]
                                  refine wpAnyU_ready (rs := [4]) (by kernel_rfl) (by simp) ?_
                                  refine consU rfl (fun K hK => ?_) ?_
                                  · refine step_from_lit rfl (.tmp 14) (.tmp 16) rfl slRule rfl rfl (HB.out.below M21.1.2.2.2.2) ho2 (by omega) ?_
                                    intro A8 c8 w9 hown8 hb8
                                    have LT8 := M21.2.1.lt
                                    have SZ8 := M21.1.2.2.2.1
                                    have M22 := M21.below hb8
                                    refine hK.out _ _ (M22.tab) (fun hHeld => ?_)
                                    clear hK K
                                    try simp only [Act.put, List.setIfInBounds_toArray, List.set_cons_zero, List.set_cons_succ]
                                    refine takeU (i := 7) (v := ?v2006) rfl (by kernel_rfl) (fun _ _ _ h => h) (Or.inl ⟨by rfl, ?hy2006⟩) (by assumption) ?rest2006
                                    case hy2006 => (intro w hSw; (try dsimp only at hSw); (first | (go_simp; done) | (go_simp; with_reducible rfl)))
                                    case rest2006 =>
                                      try simp only [Act.put, List.setIfInBounds_toArray, List.set_cons_zero, List.set_cons_succ]
                                      refine wpAnyU_ready (rs := [8]) (by kernel_rfl) (by simp) ?_
                                      refine lastU rfl (fun K hK => ?_)
                                      obtain ⟨_, ⟨c0, c1, c2, c3⟩, ⟨f0, f1, f2, f3⟩, _, _⟩ := M22.1
                                      go_simp
                                      refine hK.out _ _ ?_
                                      clear hK K
                                      try simp only [Act.put, List.setIfInBounds_toArray, List.set_cons_zero, List.set_cons_succ]
                                      refine wpAnyU_done (by kernel_rfl) ?_ _
                                      have HK := Lib.hid M22
                                      have HO8 := Lib.hid hown8
                                      have HLT := Lib.hid LT8
                                      have HSZ := Lib.hid SZ8
                                      have HC := Lib.hid (And.intro c0 (And.intro c1 (And.intro c2 c3)))
                                      clear hown8 LT8 SZ8
                                      go_wp2_with fail
                                      refine bodyPost_ret (v := .agg #[.int .i64 k, .slice A7 n c7, .slice A8 m c8, .int .i64 t]) ?_ rfl ⟨A7, c7, A8, c8, rfl, ?_, ?_, ?_, ?_⟩
                                      · simp [results, Try.results95, go_sem, cell_set_ne, set_some, isSome_keep, some_of c0, some_of c1, some_of c2, some_of c3]
                                      · exact ((((HK.out.2.1.setLow (by omega)).setLow (by omega)).setLow (by omega)).setLow (by omega)).mono (by omega)
                                      · exact ((((HO8.out.mono (base' := w.heap.size + 2) (by have := HSZ.out; simp at this ⊢; omega)).setLow (by omega)).setLow (by omega)).setLow (by omega)).setLow (by omega) |>.mono (by omega)
                                      · intro g h1 h2
                                        have h3 := (HLT.out g h1).2
                                        have h4 := (HO8.out.lt g h2).1
                                        simp at h3 h4
                                        omega
                                      · exact (((HK.out.1.2.2.2.2.setCell (by simp) _).setCell (by simp) _).setCell (by simp) _).setCell (by simp) _
                                  exact AllU.nil
                                exact AllU.nil
                  exact AllU.nil
                exact AllU.nil
              refine consU rfl (fun K hK => ?_) ?_
              · go_simp
                have K1 := KD.below (ref_al _ (.cells #[.int .i64 0, .slice none 0 0] 28))
                have R1 := RD.below (ref_al _ (.cells #[.int .i64 0, .slice none 0 0] 28))
                have G1 : ((wr.drew.alloc (.cells #[.int .i64 0, .slice none 0 0] 28))).heap[wr.heap.size]? = some (.cells #[.int .i64 0, .slice none 0 0] 28 (0, 0)) := heap_alloc_new _ _
                refine hK.out _ _ (K1.1) (fun hHeld => ?_)
                clear hK K
                try simp only [Act.put, List.setIfInBounds_toArray, List.set_cons_zero, List.set_cons_succ]
                refine wpAnyU_ready (rs := [3]) (by kernel_rfl) (by simp) ?_
                refine consU rfl (fun K hK => ?_) ?_
                · go_simp
                  have K2 := K1.below (ref_al _ (.cells #[] 84))
                  have R2 := R1.below (ref_al _ (.cells #[] 84))
                  have G2 := ((ref_al _ (.cells #[] 84)).block _ (Array.getElem?_eq_some_iff.1 G1).1).trans G1
                  refine hK.out _ _ (K2.1) (fun hHeld => ?_)
                  clear hK K
                  try simp only [Act.put, List.setIfInBounds_toArray, List.set_cons_zero, List.set_cons_succ]
                  refine wpAnyU_ready (rs := [7]) (by kernel_rfl) (by simp) ?_
                  refine consU rfl (fun K hK => ?_) ?_
                  · refine step_from_lit rfl (.tmp 7) (.tmp 10) rfl slRule rfl rfl R2 ho1 (by omega) ?_
                    intro A7 c7 w7 hown7 hb7
                    have O0 := hown7.mono (base' := w.heap.size + 2) (by have := K2.2.2.2.1; simp at this ⊢; omega)
                    have K3 := K2.below hb7
                    have R3 := R2.below hb7
                    have G3 := (hb7.block _ (Array.getElem?_eq_some_iff.1 G2).1).trans G2
                    refine hK.out _ _ (K3.1) (fun hHeld => ?_)
                    clear hK K
                    try simp only [Act.put, List.setIfInBounds_toArray, List.set_cons_zero, List.set_cons_succ]
                    refine takeU (i := 8) (v := ?v9) rfl (by kernel_rfl) (fun _ _ _ h => h) (Or.inl ⟨by rfl, ?hy9⟩) (by assumption) ?rest9
                    case hy9 => (intro w hSw; (try dsimp only at hSw); (first | (go_simp; done) | (go_simp; with_reducible rfl)))
                    case rest9 =>
                      try simp only [Act.put, List.setIfInBounds_toArray, List.set_cons_zero, List.set_cons_succ]
                      refine wpAnyU_ready (rs := [10]) (by kernel_rfl) (by simp) ?_
                      refine lastU rfl (fun K hK => ?_)
                      have c0 : (w7).cell? ⟨wr.heap.size, 0, none⟩ = some (.int .i64 0) := (cell_of_row _ _ 0 _ _ _ G3).trans rfl
                      have c1 : (w7).cell? ⟨wr.heap.size, 1, none⟩ = some (.slice none 0 0) := (cell_of_row _ _ 1 _ _ _ G3).trans rfl
                      have f0 : (w7).frozen? ⟨wr.heap.size, 0, none⟩ = false := frozen_of_row _ _ 0 _ _ G3
                      have f1 : (w7).frozen? ⟨wr.heap.size, 1, none⟩ = false := frozen_of_row _ _ 1 _ _ G3
                      go_simp
                      refine hK.out _ _ ?_
                      clear hK K
                      try simp only [Act.put, List.setIfInBounds_toArray, List.set_cons_zero, List.set_cons_succ]
                      refine wpAnyU_done (by kernel_rfl) ?_ _
                      have MS := CopyS.stored K3 O0 G3 (by have := KD.2.2.2.1; simp at this ⊢; omega)
                      obtain ⟨g3, hg3⟩ : ∃ g3, g3 = wr.heap.size := ⟨_, rfl⟩
                      obtain ⟨w8, hw8⟩ : ∃ w8 : World, w8 = ((w7).setCell ⟨wr.heap.size, 0, none⟩ (.int .i64 k)).setCell ⟨wr.heap.size, 1, none⟩ (.slice A7 n c7) := ⟨_, rfl⟩
                      rw [← hw8, ← hg3] at MS
                      rw [← hw8, ← hg3]
                      clear hw8 hg3 c0 c1 f0 f1
                      have MD : CopyM w w8.drew k A n c B m d t g3 A7 c7 us := CopyM.below MS (Below.refl _ _).drew
                      clear MS
                      go_wp2_with fail
                      refine wp_region_U (fun w' => w'.cell? ⟨w.heap.size, 2, none⟩ = some (.slice B m d) ∧ w'.cell? ⟨w.heap.size, 3, none⟩ = some (.int .i64 t) ∧ w'.cell? ⟨g3, 0, none⟩ = some (.int .i64 k) ∧ w'.cell? ⟨g3, 1, none⟩ = some (.slice A7 n c7)) 8 (by kernel_rfl) (MD.tab) (fun hHeld => ?_)
                      refine takeU (i := 0) (v := ?v3001) rfl (by kernel_rfl) (fun _ _ _ h => h) (Or.inl ⟨by rfl, ?hy3001⟩) (by assumption) ?rest3001
                      case hy3001 => (intro w hSw; (try dsimp only at hSw); (first | (go_simp; done) | (go_simp; with_reducible rfl)))
                      case rest3001 =>
                        try simp only [Act.put, List.setIfInBounds_toArray, List.set_cons_zero, List.set_cons_succ]
                        refine takeU (i := 2) (v := ?v3002) rfl (by kernel_rfl) (fun _ _ _ h => h) (Or.inl ⟨by rfl, ?hy3002⟩) (by assumption) ?rest3002
                        case hy3002 => (intro w hSw; (try dsimp only at hSw); (first | (go_simp; done) | (go_simp; with_reducible rfl)))
                        case rest3002 =>
                          try simp only [Act.put, List.setIfInBounds_toArray, List.set_cons_zero, List.set_cons_succ]
                          refine takeU (i := 3) (v := ?v3003) rfl (by kernel_rfl) (fun _ _ _ h => h) (Or.inl ⟨by rfl, ?hy3003⟩) (by assumption) ?rest3003
                          case hy3003 => (intro w hSw; (try dsimp only at hSw); (first | (go_simp; done) | (go_simp; with_reducible rfl)))
                          case rest3003 =>
                            try simp only [Act.put, List.setIfInBounds_toArray, List.set_cons_zero, List.set_cons_succ]
                            refine takeU (i := 5) (v := ?v3004) rfl (by kernel_rfl) (fun _ _ _ h => h) (Or.inl ⟨by rfl, ?hy3004⟩) (by assumption) ?rest3004
                            case hy3004 => (intro w hSw; (try dsimp only at hSw); (first | (go_simp; done) | (go_simp; with_reducible rfl)))
                            case rest3004 =>
                              try simp only [Act.put, List.setIfInBounds_toArray, List.set_cons_zero, List.set_cons_succ]
                              refine takeU (i := 6) (v := ?v3005) rfl (by kernel_rfl) (fun _ _ _ h => h) (Or.inl ⟨by rfl, ?hy3005⟩) (by assumption) ?rest3005
                              case hy3005 => (intro w hSw; (try dsimp only at hSw); (first | (go_simp; done) | (go_simp; with_reducible rfl)))
                              case rest3005 =>
                                try simp only [Act.put, List.setIfInBounds_toArray, List.set_cons_zero, List.set_cons_succ]
                                refine wpAnyU_ready (rs := [1]) (by kernel_rfl) (by simp) ?_
                                refine consU rfl (fun K hK => ?_) ?_
                                · go_simp
                                  have M21 := MD.below (ref_al _ (.cells #[] 84))
                                  refine hK.out _ _ (M21.tab) (fun hHeld => ?_)
                                  clear hK K
                                  try simp only [Act.put, List.setIfInBounds_toArray, List.set_cons_zero, List.set_cons_succ]
                                  refine wpAnyU_ready (rs := [4]) (by kernel_rfl) (by simp) ?_
                                  refine consU rfl (fun K hK => ?_) ?_
                                  · refine step_from_lit rfl (.tmp 14) (.tmp 16) rfl slRule rfl rfl (HB.out.below M21.1.2.2.2.2) ho2 (by omega) ?_
                                    intro A8 c8 w9 hown8 hb8
                                    have LT8 := M21.2.1.lt
                                    have SZ8 := M21.1.2.2.2.1
                                    have M22 := M21.below hb8
                                    refine hK.out _ _ (M22.tab) (fun hHeld => ?_)
                                    clear hK K
                                    try simp only [Act.put, List.setIfInBounds_toArray, List.set_cons_zero, List.set_cons_succ]
                                    refine takeU (i := 7) (v := ?v3006) rfl (by kernel_rfl) (fun _ _ _ h => h) (Or.inl ⟨by rfl, ?hy3006⟩) (by assumption) ?rest3006
                                    case hy3006 => (intro w hSw; (try dsimp only at hSw); (first | (go_simp; done) | (go_simp; with_reducible rfl)))
                                    case rest3006 =>
                                      try simp only [Act.put, List.setIfInBounds_toArray, List.set_cons_zero, List.set_cons_succ]
                                      refine wpAnyU_ready (rs := [8]) (by kernel_rfl) (by simp) ?_
                                      refine lastU rfl (fun K hK => ?_)
                                      obtain ⟨_, ⟨c0, c1, c2, c3⟩, ⟨f0, f1, f2, f3⟩, _, _⟩ := M22.1
                                      go_simp
                                      refine hK.out _ _ ?_
                                      clear hK K
                                      try simp only [Act.put, List.setIfInBounds_toArray, List.set_cons_zero, List.set_cons_succ]
                                      refine wpAnyU_done (by kernel_rfl) ?_ _
                                      have HK := Lib.hid M22
                                      have HO8 := Lib.hid hown8
                                      have HLT := Lib.hid LT8
                                      have HSZ := Lib.hid SZ8
                                      have HC := Lib.hid (And.intro c0 (And.intro c1 (And.intro c2 c3)))
                                      clear hown8 LT8 SZ8
                                      go_wp2_with fail
                                      refine bodyPost_ret (v := .agg #[.int .i64 k, .slice A7 n c7, .slice A8 m c8, .int .i64 t]) ?_ rfl ⟨A7, c7, A8, c8, rfl, ?_, ?_, ?_, ?_⟩
                                      · simp [results, Try.results95, go_sem, cell_set_ne, set_some, isSome_keep, some_of c0, some_of c1, some_of c2, some_of c3]
                                      · exact ((((HK.out.2.1.setLow (by omega)).setLow (by omega)).setLow (by omega)).setLow (by omega)).mono (by omega)
                                      · exact ((((HO8.out.mono (base' := w.heap.size + 2) (by have := HSZ.out; simp at this ⊢; omega)).setLow (by omega)).setLow (by omega)).setLow (by omega)).setLow (by omega) |>.mono (by omega)
                                      · intro g h1 h2
                                        have h3 := (HLT.out g h1).2
                                        have h4 := (HO8.out.lt g h2).1
                                        simp at h3 h4
                                        omega
                                      · exact (((HK.out.1.2.2.2.2.setCell (by simp) _).setCell (by simp) _).setCell (by simp) _).setCell (by simp) _
                                  exact AllU.nil
                                exact AllU.nil
                  exact AllU.nil
                exact AllU.nil
              exact AllU.nil
end Go.Proofs.Ytlohpphmamapeaa
/-
  The equations of the pairs of the last rule: the contract of l06Pairs of the reference.
  Conditions: a valid system.
-/
namespace Go.Proofs.Ytlohpphmamapeaa
open Go.RowKit
set_option linter.unusedVariables false
set_option linter.unusedSimpArgs false

theorem sys_pairs {k : Int} {rs : List M.Rule} (h : M.SystemOk k rs = true) : M.PairsOf k rs = M.pairTo rs rs.length := if_pos h
theorem sys_short {k : Int} {rs : List M.Rule} (h : M.SystemOk k rs = true) : ∀ r ∈ rs, r.left.length ≤ 1048576 ∧ r.right.length ≤ 1048576 := fun r hr => by
  have := (sys_iff.1 h).2.2 r hr
  exact ⟨Nat.le_trans this.2.2.2.1 (by decide), Nat.le_trans this.2.2.2.2 (by decide)⟩
/-- The value of a rule: its two words. -/
def ruleCells (r : M.Rule) : List Value := [.string ⟨r.left.toArray⟩, .string ⟨r.right.toArray⟩]
theorem ruls_snoc (rs : List M.Rule) (r : M.Rule) : ruls (rs ++ [r]) = ruls rs ++ ruleCells r := by simp [ruls, ruleCells, rule2]
theorem ruleCells_one (r : M.Rule) : ∀ u ∈ ruleCells r, u.oneCell' = true := fun u hu => by
  simp [ruleCells] at hu
  rcases hu with rfl | rfl <;> rfl
theorem rd_lit (W : World) (r : M.Rule) (e : TypeId) : Rd (W.alloc (.cells #[.string ⟨r.left.toArray⟩, .string ⟨r.right.toArray⟩] e)) 2 (some ⟨W.heap.size, 0, none⟩) 1 (ruleCells r) :=
  ⟨rfl, fun _ => ⟨W.heap.size, 0, rfl, fun j u hu => by
    rw [Nat.zero_add, World.cell?_alloc_at _ _ _ _ rfl]
    simpa [ruleCells] using hu⟩⟩
/-- A call that returns a slice of its own. -/
def RetS (e : TypeId) (size n : Nat) (cs : List Value) (w : World) (x : Ending) (w' : World) : Prop :=
  ∃ A c, x = .returned (.slice A n c) ∧ OwnS w' w.heap.size e size A n c cs ∧ Below w.heap.size w w'
/-- What stands in the loop of l06Pairs. -/
def PairQ (w wr : World) (k : Int) (A : Option Addr) (n c : Nat) (D : Option Addr) (np cd : Nat) (us : List Value) (A' : Option Addr) (m c' : Nat) (es : List M.Rule) : Prop :=
  (wr.cell? ⟨w.heap.size, 0, none⟩ = some (.int .i64 k) ∧ wr.cell? ⟨w.heap.size, 1, none⟩ = some (.slice A n c)) ∧ OwnS wr (w.heap.size + 1) 84 2 A' m c' (ruls es) ∧ OwnS wr (w.heap.size + 1) 131 5 D np cd us ∧ w.heap.size + 1 ≤ wr.heap.size ∧ Below w.heap.size w wr
section
variable {w wr w' : World} {k : Int} {A D A' A7 : Option Addr} {n c np cd m c' c7 : Nat} {us : List Value} {es : List M.Rule}
theorem PairQ.below (h : PairQ w wr k A n c D np cd us A' m c' es) (hb : Below wr.heap.size wr w') : PairQ w w' k A n c D np cd us A' m c' es := by
  obtain ⟨⟨a0, a1⟩, o1, o2, hs, hB⟩ := h
  have := hb.size
  exact ⟨⟨cellKeep hb a0, cellKeep hb a1⟩, o1.below hb, o2.below hb, by omega, hB.trans (hb.mono (by omega))⟩
theorem OwnS.apart {base base' size size' : Nat} {e e' : TypeId} {B : Option Addr} {xs ys : List Value} (h : OwnS wr base e size A n c xs) (h' : OwnS wr base' e' size' B m c' ys) (hne : e ≠ e') : ∀ g, blkS A c = some g → some g ≠ blkS B c' := fun g hg heq => by
  obtain ⟨c1, h1⟩ := h.type hg
  obtain ⟨c2, h2⟩ := h'.type heq.symm
  rw [h1] at h2
  simp at h2
  exact hne h2.2
theorem PairQ.push (h : PairQ w wr k A n c D np cd us A' m c' es) (hg : wr.grownBy w' (blkS A' c')) {r : M.Rule} (ho : OwnS w' (w.heap.size + 1) 84 2 A7 (m + 1) c7 (ruls es ++ ruleCells r)) : PairQ w w' k A n c D np cd us A7 (m + 1) c7 (es ++ [r]) := by
  obtain ⟨⟨a0, a1⟩, o1, o2, hs, hB⟩ := h
  have hB1 : Below (w.heap.size + 1) wr w' := (Below.refl _ _).grown hg hs (fun _ hk => (o1.lt _ hk).1)
  exact ⟨⟨cellBelow hB1 (by omega) a0, cellBelow hB1 (by omega) a1⟩, by rw [ruls_snoc]; exact ho, o2.grown hg (o2.apart o1 (by decide)), Nat.le_trans hs hg.size, hB.trans (hB1.mono (by omega))⟩
end
set_option maxRecDepth 100000 in
set_option maxHeartbeats 8000000 in
theorem l06Pairs_c (k : Int) (A : Option Addr) (c : Nat) (rs : List M.Rule) (w : World) (hA : Rd w 2 A rs.length (ruls rs)) (hok : M.SystemOk k rs = true) :
    Calls Try.prog 100 #[.agg #[.int .i64 k, .slice A rs.length c]] w (RetS 84 2 (M.newEqs rs (M.pairTo rs rs.length)).length (ruls (M.newEqs rs (M.pairTo rs rs.length))) w) := by
  have h12 := (sys_iff.1 hok).2.1
  have hs := sys_short hok
  have H1 := Lib.hid (fun W h => spec_PairsOf_c k A c rs W h (by omega) hs)
  rw [sys_pairs hok] at H1
  have H2 := Lib.hid (fun (p : M.Pair) W h (hp : p ∈ M.pairTo rs rs.length) => show Calls Try.prog 148 #[.agg #[.int .i64 k, .slice A rs.length c], .agg #[.string ⟨p.word.toArray⟩, .int .i64 p.r1, .int .i64 p.p1, .int .i64 p.r2, .int .i64 p.p2]] W (fun e w' => e = .returned (.tuple #[.string ⟨(M.pairEq rs p).left.toArray⟩, .string ⟨(M.pairEq rs p).right.toArray⟩, .bool true]) ∧ Below W.heap.size W w') from by
    obtain ⟨i, j, q, _, _, _, _, _, _, h16, e, _, _⟩ := pair_sides hok hp
    have h := spec_SidesOf_c k A c rs p.word p.r1 p.p1 p.r2 p.p2 W h (by omega) hs (by omega)
    rw [e] at h
    exact h)
  have HA := Lib.hid (fun W (hb : Below w.heap.size w W) => hA.below hb)
  have HNP := Lib.hid (show (M.pairTo rs rs.length).length ≤ 13000 from by
    have := to_len8 (rs := rs) (fun i => sides8 hok) h12 rs.length
    omega)
  have HYES := Lib.hid (fun (j : Nat) (ps : List M.Pair) (hj : j < ps.length) (h : M.isNew rs ps[j] = true) => new_yes hj h)
  have HNO := Lib.hid (fun (j : Nat) (ps : List M.Pair) (hj : j < ps.length) (h : M.isNew rs ps[j] = false) => new_no hj h)
  have HLEN := Lib.hid (fun ps => new_len rs ps)
  obtain ⟨n, hn⟩ : ∃ n, n = rs.length := ⟨_, rfl⟩
  have HIN : Hid (∀ p : M.Pair, M.isNew rs p = (decide (p.r1 = (n : Int) - 1) || decide (p.r2 = (n : Int) - 1))) := Lib.hid (by intro p; rw [hn]; rfl)
  have hnb : n ≤ 12 := by omega
  rw [← hn] at H1 H2 HA HNP ⊢
  have HF0 := Lib.hid (show M.newEqs rs [] = [] from rfl)
  generalize M.pairTo rs n = ps at *
  generalize M.newEqs rs = F at *
  generalize M.pairEq rs = E at *
  generalize M.isNew rs = N at *
  obtain ⟨np, hnp⟩ : ∃ np, np = ps.length := ⟨_, rfl⟩
  have HP := Lib.hid hnp
  rw [← hnp] at H1 HNP
  have hnpb : np ≤ 13000 := HNP.out
  generalize hqq : F ps = fs
  have HFS := Lib.hid hqq
  clear hA hok h12 hs hn hnp hqq
  go_enter Try.func100, Try.ntmps100
  go_wp2_with fail
  refine (H1.out _ (HA.out _ (below_al (below_al (Below.refl _ _) _) _))).mono ?_
  rintro e w1 ⟨D, cd, rfl, hown, hb⟩
  have HQ := Lib.hid (show PairQ w w1 k A n c D np cd (pairs_ ps) (some ⟨w.heap.size + 1, 0, none⟩) 0 0 (F (ps.take 0)) from by
    rw [List.take_zero, HF0.out]
    refine ⟨⟨cellKeep hb (by simp [go_sem]), cellKeep hb (by simp [go_sem])⟩, ⟨by simp [ruls], Nat.le_refl _, by simp [maxLen], fun h => by omega⟩, (OwnS.of_row hown).mono (by simp), by have := hb.size; simp at this; omega, (below_al (below_al (Below.refl _ _) _) _).trans (hb.mono (by simp; omega))⟩)
  clear hown hb H1
  go_wp2_with fail
  go_loopw [18, 3] (fun z s wr => ∃ (j : Nat) (A' : Option Addr) (c' : Nat), j ≤ np ∧ z = .int .i64 j ∧ s = .slice A' (F (ps.take j)).length c' ∧ PairQ w wr k A n c D np cd (pairs_ ps) A' (F (ps.take j)).length c' (F (ps.take j))) (fun z _ _ => np - (intOf z).toNat)
  case atStart => exact ⟨0, _, 0, by omega, rfl, by rw [List.take_zero, HF0.out]; rfl, by have h := HQ.out; rw [List.take_zero, HF0.out] at h ⊢; exact h⟩
  case round =>
    clear HQ
    obtain ⟨j, A', c', hj, rfl, rfl, hq⟩ := hrel
    have HQ := Lib.hid hq
    have HL := Lib.hid (show (F (ps.take j)).length ≤ 13000 from Nat.le_trans (HLEN.out _) (by rw [List.length_take]; have := HP.out; have := HNP.out; omega))
    clear hq
    by_cases hlt : j < np
    case neg =>
      obtain rfl : j = np := by omega
      have HE := Lib.hid (show F (ps.take j) = fs by rw [HP.out, List.take_length, HFS.out])
      generalize F (ps.take j) = es at *
      go_wp2_with fail
      go_ret
      have h1 := HE.out
      subst h1
      exact ⟨A', c', rfl, HQ.out.2.1.mono (by omega), HQ.out.2.2.2.2⟩
    case pos =>
      obtain ⟨b, o, rfl, hz, d0, d1, d2, d3, d4⟩ := HQ.out.2.2.1.own.rd.pairAt (k := j) hlt
      have HY := Lib.hid (HYES.out j ps hz)
      have HN := Lib.hid (HNO.out j ps hz)
      rw [HIN.out] at HY HN
      have H3 := Lib.hid (fun W h => H2.out ps[j] W h (List.getElem_mem hz))
      generalize hx : ps[j] = x at *
      obtain ⟨xw, x1, x2, x3, x4⟩ := x
      simp only at d0 d1 d2 d3 d4 HY HN H3
      generalize hE : E ⟨xw, x1, x2, x3, x4⟩ = r at *
      obtain ⟨ul, ur⟩ := r
      simp only at H3
      generalize F (ps.take j) = es at *
      generalize hF1 : F (ps.take (j + 1)) = es1 at *
      have HF1 := Lib.hid hF1
      generalize hm : es.length = m at *
      have HM := Lib.hid hm
      clear hx hE hF1 hm
      have k0 := fun o => allocKeep1 HQ.out.1.1 o
      have k1 := fun o => allocKeep1 HQ.out.1.2 o
      by_cases h1 : x1 = (n : Int) - 1
      case pos =>
        subst h1
        go_wp2_with fail
        refine (H3.out _ (HA.out _ (below_al HQ.out.2.2.2.2 _))).mono ?_
        rintro e w2 ⟨rfl, hb2⟩
        have HQ2 := Lib.hid ((HQ.out.below (ref_al _ _)).below hb2)
        have HE := Lib.hid (HY.out (by simp))
        clear hb2 d0 d1 d2 d3 d4 k0 k1
        go_wp2_with (at_builtin; refine push_off_many rfl _ _ rfl slRule rfl (HQ2.out.below (ref_al _ _)).2.1 rfl (rd_lit _ _ _) (ruleCells_one ⟨ul, ur⟩) (HQ2.out.below (ref_al _ _)).2.2.2.1 (by have := HL.out; omega) ?_; intro A7 c7 w7 hown7 hg7 hat7)
        have HQ7 := Lib.hid ((HQ2.out.below (ref_al _ _)).push hg7 (r := ⟨ul, ur⟩) hown7)
        clear hown7 hg7 hat7
        go_roundw
        case rel =>
          refine ⟨j + 1, A7, c7, by omega, by go_num, ?_, ?_⟩
          · rw [HF1.out, HE.out, List.length_append, HM.out]; rfl
          · rw [HF1.out, HE.out, List.length_append, HM.out]; exact HQ7.out
        case measure => simp [intOf] <;> omega
      case neg =>
      have h1' : (x1 == (n : Int) - 1) = false := by simpa using h1
      by_cases h3 : x3 = (n : Int) - 1
      case pos =>
        subst h3
        go_wp2_with fail
        refine (H3.out _ (HA.out _ (below_al HQ.out.2.2.2.2 _))).mono ?_
        rintro e w2 ⟨rfl, hb2⟩
        have HQ2 := Lib.hid ((HQ.out.below (ref_al _ _)).below hb2)
        have HE := Lib.hid (HY.out (by simp))
        clear hb2 d0 d1 d2 d3 d4 k0 k1
        go_wp2_with (at_builtin; refine push_off_many rfl _ _ rfl slRule rfl (HQ2.out.below (ref_al _ _)).2.1 rfl (rd_lit _ _ _) (ruleCells_one ⟨ul, ur⟩) (HQ2.out.below (ref_al _ _)).2.2.2.1 (by have := HL.out; omega) ?_; intro A7 c7 w7 hown7 hg7 hat7)
        have HQ7 := Lib.hid ((HQ2.out.below (ref_al _ _)).push hg7 (r := ⟨ul, ur⟩) hown7)
        clear hown7 hg7 hat7
        go_roundw
        case rel =>
          refine ⟨j + 1, A7, c7, by omega, by go_num, ?_, ?_⟩
          · rw [HF1.out, HE.out, List.length_append, HM.out]; rfl
          · rw [HF1.out, HE.out, List.length_append, HM.out]; exact HQ7.out
        case measure => simp [intOf] <;> omega
      case neg =>
        have h3' : (x3 == (n : Int) - 1) = false := by simpa using h3
        have HE := Lib.hid (HN.out (by simp [h1, h3]))
        have HQ2 := Lib.hid (HQ.out.below (ref_al wr (.cells #[.string ⟨xw.toArray⟩, .int .i64 x1, .int .i64 x2, .int .i64 x3, .int .i64 x4] 131)))
        go_wp2_with fail
        go_roundw
        case rel =>
          refine ⟨j + 1, A', c', by omega, by go_num, ?_, ?_⟩
          · rw [HF1.out, HE.out, HM.out]
          · rw [HF1.out, HE.out, HM.out]; exact HQ2.out
        case measure => simp [intOf] <;> omega
end Go.Proofs.Ytlohpphmamapeaa
/-
  What stands in the first loop of l06Insert of the reference.
  Conditions: none; no law in this text.
-/
namespace Go.Proofs.Ytlohpphmamapeaa
open Go.RowKit
set_option linter.unusedVariables false
set_option linter.unusedSimpArgs false

/-- Two slices of the call's own in blocks of their own. -/
def apartS (A : Option Addr) (c : Nat) (B : Option Addr) (d : Nat) : Prop := ∀ g, blkS A c = some g → blkS B d ≠ some g
theorem apartS.symm {A B : Option Addr} {c d : Nat} (h : apartS A c B d) : apartS B d A c := fun g h1 h2 => h g h2 h1
section
variable {W w' : World} {base base' n m c d c' size : Nat} {A B A' : Option Addr} {e : TypeId} {xs ys : List Value}
/-- The other slice behind an append. -/
theorem apartS.keep (h : apartS A c B d) (hB : OwnS W base e size B m d ys) (hg : W.grownBy w' (blkS A c)) : OwnS w' base e size B m d ys :=
  hB.grown hg fun g h1 h2 => h g h2.symm h1
theorem apartS.next (h : apartS A c B d) (hB : OwnS W base e size B m d ys) (ht : (A' = A ∧ c' = c) ∨ blkS A' c' = none ∨ blkS A' c' = some W.heap.size) : apartS A' c' B d := by
  intro g h1 h2
  have hlt := (hB.lt g h2).2
  rcases ht with ⟨rfl, rfl⟩ | ht | ht
  · exact h g h1 h2
  · rw [ht] at h1; cases h1
  · rw [ht] at h1
    injection h1 with h1
    omega
end
/-- The fixed cells of l06Insert (h: where its cells begin): the system, the rule, the result, the letters of the system under way. -/
def InsF (h : Nat) (wr : World) (k : Int) (A : Option Addr) (n c : Nat) (rl rr : List UInt8) : Prop :=
  (wr.cell? ⟨h, 0, none⟩ = some (.int .i64 k) ∧ wr.cell? ⟨h, 1, none⟩ = some (.slice A n c)) ∧ (wr.cell? ⟨h + 1, 0, none⟩ = some (.string ⟨rl.toArray⟩) ∧ wr.cell? ⟨h + 1, 1, none⟩ = some (.string ⟨rr.toArray⟩)) ∧
  (wr.cell? ⟨h + 2, 0, none⟩ = some (.int .i64 0) ∧ wr.cell? ⟨h + 2, 1, none⟩ = some (.slice none 0 0) ∧ wr.frozen? ⟨h + 2, 0, none⟩ = false ∧ wr.frozen? ⟨h + 2, 1, none⟩ = false) ∧
  (wr.cell? ⟨h + 4, 0, none⟩ = some (.int .i64 k) ∧ wr.frozen? ⟨h + 4, 1, none⟩ = false) ∧ h + 5 ≤ wr.heap.size
/-- What stands in the first loop: the fixed cells, the rules kept (their slice in its cell), the rules that go. -/
def InsQ (w wr : World) (k : Int) (A : Option Addr) (n c : Nat) (rl rr : List UInt8) (e : TypeId) (R : Option Addr) (nr cr : Nat) (gs : List M.Rule) (L : Option Addr) (nl cl : Nat) (ks : List M.Rule) : Prop :=
  InsF w.heap.size wr k A n c rl rr ∧ wr.cell? ⟨w.heap.size + 4, 1, none⟩ = some (.slice L nl cl) ∧ OwnS wr (w.heap.size + 5) e 2 R nr cr (ruls gs) ∧ OwnS wr (w.heap.size + 5) e 2 L nl cl (ruls ks) ∧ apartS R cr L cl ∧ Below w.heap.size w wr
section
variable {w wr w' : World} {k : Int} {A R R' L L' : Option Addr} {h n c nr cr cr' nl cl cl' : Nat} {rl rr : List UInt8} {e : TypeId} {gs ks : List M.Rule} {r : M.Rule}
theorem InsF.keep (q : InsF h wr k A n c rl rr) (hb : Below (h + 5) wr w') (hz : wr.heap.size ≤ w'.heap.size) : InsF h w' k A n c rl rr := by
  obtain ⟨⟨a0, a1⟩, ⟨b0, b1⟩, ⟨d0, d1, f0, f1⟩, ⟨g0, g1⟩, hs⟩ := q
  have q0 : h < h + 5 := by omega
  have q1 : h + 1 < h + 5 := by omega
  have q2 : h + 2 < h + 5 := by omega
  have q4 : h + 4 < h + 5 := by omega
  exact ⟨⟨cellBelow hb q0 a0, cellBelow hb q0 a1⟩, ⟨cellBelow hb q1 b0, cellBelow hb q1 b1⟩, ⟨cellBelow hb q2 d0, cellBelow hb q2 d1, (hb.frozen (p := ⟨h + 2, 0, none⟩) q2).trans f0, (hb.frozen (p := ⟨h + 2, 1, none⟩) q2).trans f1⟩, ⟨cellBelow hb q4 g0, (hb.frozen (p := ⟨h + 4, 1, none⟩) q4).trans g1⟩, by omega⟩
theorem InsQ.below (q : InsQ w wr k A n c rl rr e R nr cr gs L nl cl ks) (hb : Below wr.heap.size wr w') : InsQ w w' k A n c rl rr e R nr cr gs L nl cl ks := by
  obtain ⟨f, l, o1, o2, ha, hB⟩ := q
  have hs := f.2.2.2.2
  exact ⟨f.keep (hb.mono hs) hb.size, cellKeep hb l, o1.below hb, o2.below hb, ha, hB.trans (hb.mono (by omega))⟩
/-- A rule that goes. -/
theorem InsQ.gone (q : InsQ w wr k A n c rl rr e R nr cr gs L nl cl ks) (hg : wr.grownBy w' (blkS R cr)) (hat : (R' = R ∧ cr' = cr) ∨ blkS R' cr' = none ∨ blkS R' cr' = some wr.heap.size) (ho : OwnS w' (w.heap.size + 5) e 2 R' (nr + 1) cr' (ruls gs ++ ruleCells r)) :
    InsQ w w' k A n c rl rr e R' (nr + 1) cr' (gs ++ [r]) L nl cl ks := by
  obtain ⟨f, l, o1, o2, ha, hB⟩ := q
  have hs := f.2.2.2.2
  have hb : Below (w.heap.size + 5) wr w' := (Below.refl _ _).grown hg hs (fun _ hk => (o1.lt _ hk).1)
  exact ⟨f.keep hb hg.size, cellBelow hb (by omega) l, by rw [ruls_snoc]; exact ho, ha.keep o2 hg, ha.next o2 hat, hB.trans (hb.mono (by omega))⟩
/-- A rule that stays: its slice is stored again. -/
theorem InsQ.kept (q : InsQ w wr k A n c rl rr e R nr cr gs L nl cl ks) (hg : wr.grownBy w' (blkS L cl)) (hat : (L' = L ∧ cl' = cl) ∨ blkS L' cl' = none ∨ blkS L' cl' = some wr.heap.size) (ho : OwnS w' (w.heap.size + 5) e 2 L' (nl + 1) cl' (ruls ks ++ ruleCells r)) :
    w'.cell? ⟨w.heap.size + 4, 1, none⟩ = some (.slice L nl cl) ∧ w'.frozen? ⟨w.heap.size + 4, 1, none⟩ = false ∧ InsQ w (w'.setCell ⟨w.heap.size + 4, 1, none⟩ (.slice L' (nl + 1) cl')) k A n c rl rr e R nr cr gs L' (nl + 1) cl' (ks ++ [r]) := by
  obtain ⟨f, l, o1, o2, ha, hB⟩ := q
  have hs := f.2.2.2.2
  have hb : Below (w.heap.size + 5) wr w' := (Below.refl _ _).grown hg hs (fun _ hk => (o2.lt _ hk).1)
  have l' := cellBelow hb (show w.heap.size + 4 < w.heap.size + 5 by omega) l
  obtain ⟨⟨a0, a1⟩, ⟨b0, b1⟩, ⟨d0, d1, f0, f1⟩, ⟨g0, g1⟩, hs'⟩ := f.keep hb hg.size
  refine ⟨l', g1, ⟨⟨(cell_set_ne _ (Or.inl (by simp))).trans a0, (cell_set_ne _ (Or.inl (by simp))).trans a1⟩, ⟨(cell_set_ne _ (Or.inl (by simp))).trans b0, (cell_set_ne _ (Or.inl (by simp))).trans b1⟩, ⟨(cell_set_ne _ (Or.inl (by simp))).trans d0, (cell_set_ne _ (Or.inl (by simp))).trans d1, by simpa using f0, by simpa using f1⟩, ⟨(cell_set_ne _ (Or.inr (by decide))).trans g0, by simpa using g1⟩, by simpa using hs'⟩, cell_set_eq _ l', (ha.symm.keep o1 hg).setLow (by omega), by rw [ruls_snoc]; exact ho.setLow (by omega), (ha.symm.next o1 hat).symm, (hB.trans (hb.mono (by omega))).setCell (by simp) _⟩
end
end Go.Proofs.Ytlohpphmamapeaa
/-
  A slice without its first element: what the operation answers, and what the rest owns or reads.
  Conditions: at least one element.
-/
namespace Go.Proofs.Ytlohpphmamapeaa
open Go.RowKit
set_option linter.unusedVariables false
set_option linter.unusedSimpArgs false

/-- Where the rest of a slice begins. -/
def tailA (size : Nat) (A : Option Addr) (c : Nat) : Option Addr := if c = 1 then A else A.map (·.add size)
theorem run_tail {P : Program} {t e : TypeId} {size : Nat} (T : SlT P t e size) (A : Option Addr) (m c : Nat) (hc : m + 1 ≤ c) (W : World) :
    (Instr.slice t (.slice A (m + 1) c) (some (.int .i64 1)) none none).run P W = .ok (.slice (tailA size A c) m (c - 1)) W := by
  obtain ⟨i, z, hi, hz, hsz, hby, hzs⟩ := T.info
  have hu := T.und
  have ht' : P.underlying t = some (.slice (P.elem t)) := by simp [Program.elem, hu]
  have he : P.elem t = e := by simp [Program.elem, hu]
  have hs : (sizeOf e).run P W = .ok size W := by rw [run_sizeOf W hi]; simp [Program.cellsOf, hi, hsz]
  have h := run_slice_l W t A (m + 1) c ht' .i64 1 (by omega) (by omega)
  rw [h, he, hs]
  unfold tailA
  simp [Result.andThen, sliced]
theorem OwnS.cut {W : World} {base size m c : Nat} {e : TypeId} {A : Option Addr} {xs : List Value} (h : OwnS W base e size A (m + 1) c xs) : OwnS W base e size (tailA size A c) m (c - 1) (xs.drop size) := by
  have h1 := h.2.1
  unfold tailA
  by_cases hc : c = 1
  · subst hc
    obtain rfl : m = 0 := by omega
    rw [if_pos rfl]
    exact h.tail1
  · rw [if_neg hc]
    obtain ⟨g, off, cur, rfl, _⟩ := h.2.2.2 (by omega)
    have ha : (⟨g, off, none⟩ : Addr).add size = ⟨g, off + size, none⟩ := by unfold Addr.add; split <;> simp_all
    rw [Option.map_some, ha]
    exact h.tail (by omega)
theorem blkS_cut {size c g : Nat} {A : Option Addr} (h : blkS (tailA size A c) (c - 1) = some g) : blkS A c = some g := by
  obtain ⟨h1, ad, h2, h3⟩ := blkS_some h
  unfold tailA at h2
  rw [if_neg (by omega)] at h2
  unfold blkS
  rw [if_neg (by omega)]
  cases A with
  | none => cases h2
  | some a =>
    simp at h2
    subst h2
    rw [← h3]
    simp [Addr.add]
    split <;> rfl
theorem apartS.cut {size c d : Nat} {A B : Option Addr} (h : apartS A c B d) : apartS A c (tailA size B d) (d - 1) := fun g h1 h2 => h g h1 (blkS_cut h2)
theorem Rd.cut {W : World} {size m c : Nat} {A : Option Addr} {xs : List Value} (h : Rd W size A (m + 1) xs) (hc : m + 1 ≤ c) : Rd W size (tailA size A c) m (xs.drop size) := by
  refine ⟨by rw [List.length_drop, h.1, Nat.succ_mul, Nat.add_sub_cancel], fun hm => ?_⟩
  obtain ⟨b, o, rfl, hcell⟩ := h.2 (by omega)
  unfold tailA
  rw [if_neg (by omega)]
  have ha : (⟨b, o, none⟩ : Addr).add size = ⟨b, o + size, none⟩ := by unfold Addr.add; split <;> simp_all
  refine ⟨b, o + size, by rw [Option.map_some, ha], fun j u hu => ?_⟩
  rw [List.getElem?_drop] at hu
  rw [Nat.add_assoc]
  exact hcell _ _ hu
theorem ruls_drop (r : M.Rule) (rs : List M.Rule) : (ruls (r :: rs)).drop 2 = ruls rs := by simp [ruls, rule2]
end Go.Proofs.Ytlohpphmamapeaa
/-
  What stands while a turn is made: the work handed in, the work under way, and what a turn returns.
  Conditions: none; no law in this text.
-/
namespace Go.Proofs.Ytlohpphmamapeaa
open Go.RowKit
set_option linter.unusedVariables false
set_option linter.unusedSimpArgs false

/-- What a turn returns: the work, both of its slices its own and in blocks of their own, and the code. -/
def RetTurn (e : TypeId) (k : Int) (x : M.Wk) (w : World) (r : Ending) (w' : World) : Prop :=
  ∃ A c B d, r = .returned (.tuple #[.agg #[.int .i64 k, .slice A x.rs.length c, .slice B x.qs.length d, .int .i64 x.t], .int .i64 x.code]) ∧ OwnS w' w.heap.size e 2 A x.rs.length c (ruls x.rs) ∧ OwnS w' w.heap.size e 2 B x.qs.length d (ruls x.qs) ∧ apartS A c B d ∧ Below w.heap.size w w'
/-- The work under way lies in block g. -/
def OutQ (e ew : TypeId) (lo : Nat) (wr : World) (g : Nat) (k : Int) (A : Option Addr) (n c : Nat) (us : List Value) (B : Option Addr) (m d : Nat) (vs : List Value) (t : Int) : Prop :=
  wr.heap[g]? = some (.cells #[.int .i64 k, .slice A n c, .slice B m d, .int .i64 t] ew (0, 0)) ∧ lo ≤ g ∧ OwnS wr lo e 2 A n c us ∧ OwnS wr lo e 2 B m d vs ∧ apartS A c B d
/-- A work copied: lengths and cells by name. -/
def RetC (e : TypeId) (k : Int) (n : Nat) (us : List Value) (m : Nat) (vs : List Value) (t : Int) (w : World) (x : Ending) (w' : World) : Prop :=
  ∃ A c B d, x = .returned (.agg #[.int .i64 k, .slice A n c, .slice B m d, .int .i64 t]) ∧ OwnS w' w.heap.size e 2 A n c us ∧ OwnS w' w.heap.size e 2 B m d vs ∧ apartS A c B d ∧ Below w.heap.size w w'
section
variable {wr w' : World} {e ew : TypeId} {lo g n c m d base size n' c' : Nat} {k t : Int} {A B A' : Option Addr} {us vs xs : List Value} {cur : Array Value}
theorem OwnS.setApart (ho : OwnS wr base e size A n c us) (hG : wr.heap[g]? = some (.cells cur ew (0, 0))) (hne : e ≠ ew) (o : Nat) (u : Value) : OwnS (wr.setCell ⟨g, o, none⟩ u) base e size A n c us :=
  ho.grown (row := some g) ⟨rfl, rfl, rfl, by simp, fun k _ hk => heap_setCell_other wr ⟨g, o, none⟩ k u (fun e => hk (by simp [e]))⟩ fun x hx ex => by
    obtain ⟨cu, h1⟩ := ho.type hx
    injection ex with ex
    subst ex
    rw [hG] at h1
    simp at h1
    exact hne h1.2.symm
theorem OutQ.lt (q : OutQ e ew lo wr g k A n c us B m d vs t) : g < wr.heap.size := (Array.getElem?_eq_some_iff.1 q.1).1
theorem OutQ.below (q : OutQ e ew lo wr g k A n c us B m d vs t) (hb : Below wr.heap.size wr w') : OutQ e ew lo w' g k A n c us B m d vs t :=
  ⟨(hb.block _ q.lt).trans q.1, q.2.1, q.2.2.1.below hb, q.2.2.2.1.below hb, q.2.2.2.2⟩
theorem OutQ.tab (q : OutQ e ew lo wr g k A n c us B m d vs t) : wr.cell? ⟨g, 0, none⟩ = some (.int .i64 k) ∧ wr.cell? ⟨g, 1, none⟩ = some (.slice A n c) ∧ wr.cell? ⟨g, 2, none⟩ = some (.slice B m d) ∧ wr.cell? ⟨g, 3, none⟩ = some (.int .i64 t) :=
  ⟨(cell_of_row _ _ 0 _ _ _ q.1).trans rfl, (cell_of_row _ _ 1 _ _ _ q.1).trans rfl, (cell_of_row _ _ 2 _ _ _ q.1).trans rfl, (cell_of_row _ _ 3 _ _ _ q.1).trans rfl⟩
theorem OutQ.free (q : OutQ e ew lo wr g k A n c us B m d vs t) (o : Nat) : wr.frozen? ⟨g, o, none⟩ = false := frozen_of_row _ _ o _ _ q.1
theorem OutQ.made (hA : OwnS wr lo e 2 A n c us) (hB : OwnS wr lo e 2 B m d vs) (ha : apartS A c B d) (hlo : lo ≤ wr.heap.size) : OutQ e ew lo (wr.alloc (.cells #[.int .i64 k, .slice A n c, .slice B m d, .int .i64 t] ew)) wr.heap.size k A n c us B m d vs t :=
  ⟨heap_alloc_new _ _, hlo, hA.below (ref_al _ _), hB.below (ref_al _ _), ha⟩
theorem OutQ.cutQ (q : OutQ e ew lo wr g k A n c us B (m + 1) d vs t) (hne : e ≠ ew) : OutQ e ew lo (wr.setCell ⟨g, 2, none⟩ (.slice (tailA 2 B d) m (d - 1))) g k A n c us (tailA 2 B d) m (d - 1) (vs.drop 2) t :=
  ⟨heap_setCell_same wr g 2 _ _ _ q.1, q.2.1, q.2.2.1.setApart q.1 hne _ _, q.2.2.2.1.cut.setApart q.1 hne _ _, q.2.2.2.2.cut⟩
theorem OutQ.setT (q : OutQ e ew lo wr g k A n c us B m d vs t) (hne : e ≠ ew) (t' : Int) : OutQ e ew lo (wr.setCell ⟨g, 3, none⟩ (.int .i64 t')) g k A n c us B m d vs t' :=
  ⟨heap_setCell_same wr g 3 _ _ _ q.1, q.2.1, q.2.2.1.setApart q.1 hne _ _, q.2.2.2.1.setApart q.1 hne _ _, q.2.2.2.2⟩
theorem OutQ.setS (q : OutQ e ew lo wr g k A n c us B m d vs t) (hne : e ≠ ew) (hN : OwnS wr lo e 2 A' n' c' xs) (ha : apartS A' c' B d) : OutQ e ew lo ((wr.setCell ⟨g, 0, none⟩ (.int .i64 k)).setCell ⟨g, 1, none⟩ (.slice A' n' c')) g k A' n' c' xs B m d vs t := by
  have h0 := heap_setCell_same wr g 0 _ _ (.int .i64 k) q.1
  exact ⟨heap_setCell_same _ g 1 _ _ _ h0, q.2.1, (hN.setApart q.1 hne _ _).setApart h0 hne _ _, (q.2.2.2.1.setApart q.1 hne _ _).setApart h0 hne _ _, ha⟩
/-- More equations at the end of the queue: the append, then the store. -/
theorem OutQ.more (q : OutQ e ew lo wr g k A n c us B m d vs t) (hne : e ≠ ew) (hg : wr.grownBy w' (blkS B d)) (hat : (A' = B ∧ c' = d) ∨ blkS A' c' = none ∨ blkS A' c' = some wr.heap.size) (hN : OwnS w' lo e 2 A' n' c' xs) :
    w'.cell? ⟨g, 2, none⟩ = some (.slice B m d) ∧ w'.frozen? ⟨g, 2, none⟩ = false ∧ OutQ e ew lo (w'.setCell ⟨g, 2, none⟩ (.slice A' n' c')) g k A n c us A' n' c' xs t := by
  have hG : w'.heap[g]? = some (.cells #[.int .i64 k, .slice A n c, .slice B m d, .int .i64 t] ew (0, 0)) := (hg.block g q.lt (fun ex => by
    obtain ⟨cu, h1⟩ := q.2.2.2.1.type ex.symm
    rw [q.1] at h1
    simp at h1
    exact hne h1.2.symm)).trans q.1
  refine ⟨(cell_of_row _ _ 2 _ _ _ hG).trans rfl, frozen_of_row _ _ 2 _ _ hG, heap_setCell_same w' g 2 _ _ _ hG, q.2.1, (q.2.2.2.2.symm.keep q.2.2.1 hg).setApart hG hne _ _, hN.setApart hG hne _ _, (q.2.2.2.2.symm.next q.2.2.1 hat).symm⟩
theorem OutQ.grow (q : OutQ e ew lo wr g k A n c us B m d vs t) (hg : wr.grownBy w' (blkS B d)) (hlo : lo ≤ wr.heap.size) : Below lo wr w' := (Below.refl _ _).grown hg hlo (fun _ hk => (q.2.2.2.1.lt _ hk).1)
end
section
variable {w wr w' : World} {k t : Int} {A B : Option Addr} {n c m d g o : Nat} {u u0 u1 u2 u3 : Value}
theorem CopyS.setAt (h : CopyS w wr k A n c B m d t) (hg : w.heap.size + 2 ≤ g) (o : Nat) (u : Value) : CopyS w (wr.setCell ⟨g, o, none⟩ u) k A n c B m d t := h.keep ((Below.refl _ _).setCell hg _) (by simp)
theorem CopyS.fin (h : CopyS w wr k A n c B m d t) {e : TypeId} {A' B' : Option Addr} {n' c' m' d' : Nat} {us vs : List Value} (o1 : OwnS wr (w.heap.size + 2) e 2 A' n' c' us) (o2 : OwnS wr (w.heap.size + 2) e 2 B' m' d' vs) (u0 u1 u2 u3 : Value) :
    OwnS ((((wr.setCell ⟨w.heap.size + 1, 0, none⟩ u0).setCell ⟨w.heap.size + 1, 1, none⟩ u1).setCell ⟨w.heap.size + 1, 2, none⟩ u2).setCell ⟨w.heap.size + 1, 3, none⟩ u3) w.heap.size e 2 A' n' c' us ∧
    OwnS ((((wr.setCell ⟨w.heap.size + 1, 0, none⟩ u0).setCell ⟨w.heap.size + 1, 1, none⟩ u1).setCell ⟨w.heap.size + 1, 2, none⟩ u2).setCell ⟨w.heap.size + 1, 3, none⟩ u3) w.heap.size e 2 B' m' d' vs ∧
    Below w.heap.size w ((((wr.setCell ⟨w.heap.size + 1, 0, none⟩ u0).setCell ⟨w.heap.size + 1, 1, none⟩ u1).setCell ⟨w.heap.size + 1, 2, none⟩ u2).setCell ⟨w.heap.size + 1, 3, none⟩ u3) :=
  ⟨((((o1.setLow (by omega)).setLow (by omega)).setLow (by omega)).setLow (by omega)).mono (by omega), ((((o2.setLow (by omega)).setLow (by omega)).setLow (by omega)).setLow (by omega)).mono (by omega),
    (((h.2.2.2.2.setCell (by simp) _).setCell (by simp) _).setCell (by simp) _).setCell (by simp) _⟩
/-- The four cells of the result behind the stores. -/
theorem CopyS.res (h : CopyS w wr k A n c B m d t) (u0 u1 u2 u3 : Value) :
    (wr.setCell ⟨w.heap.size + 1, 0, none⟩ u0).cell? ⟨w.heap.size + 1, 0, none⟩ = some u0 ∧ ((wr.setCell ⟨w.heap.size + 1, 0, none⟩ u0).setCell ⟨w.heap.size + 1, 1, none⟩ u1).cell? ⟨w.heap.size + 1, 1, none⟩ = some u1 ∧
    (((wr.setCell ⟨w.heap.size + 1, 0, none⟩ u0).setCell ⟨w.heap.size + 1, 1, none⟩ u1).setCell ⟨w.heap.size + 1, 2, none⟩ u2).cell? ⟨w.heap.size + 1, 2, none⟩ = some u2 ∧
    ((((wr.setCell ⟨w.heap.size + 1, 0, none⟩ u0).setCell ⟨w.heap.size + 1, 1, none⟩ u1).setCell ⟨w.heap.size + 1, 2, none⟩ u2).setCell ⟨w.heap.size + 1, 3, none⟩ u3).cell? ⟨w.heap.size + 1, 3, none⟩ = some u3 := by
  obtain ⟨_, ⟨b0, b1, b2, b3⟩, _⟩ := h
  have ne : ∀ {W : World} {o o' : Nat} (u : Value), o ≠ o' → (W.setCell ⟨w.heap.size + 1, o, none⟩ u).cell? ⟨w.heap.size + 1, o', none⟩ = W.cell? ⟨w.heap.size + 1, o', none⟩ := fun u hne => cell_set_ne u (Or.inr hne)
  exact ⟨cell_set_eq _ b0, cell_set_eq u1 ((ne u0 (by decide)).trans b1), cell_set_eq u2 (((ne u1 (by decide)).trans (ne u0 (by decide))).trans b2), cell_set_eq u3 ((((ne u2 (by decide)).trans (ne u1 (by decide))).trans (ne u0 (by decide))).trans b3)⟩
end
end Go.Proofs.Ytlohpphmamapeaa
/-
  What stands in the loops of the program's TurnWork.
  Conditions: none; no law in this text.
-/
namespace Go.Proofs.Ytlohpphmamapeaa
open Go.RowKit
set_option linter.unusedVariables false
set_option linter.unusedSimpArgs false

section
variable {W9 wr w' : World} {e ew es ep : TypeId} {lo g g7 g12 n c m d n6 c6 n8 c8 n6' c6' n8' c8' nn cN np cd c' : Nat} {k t : Int} {A B A6 A8 A6' A8' N D A' : Option Addr} {us vs xs : List Value} {r x : M.Rule} {q6 ks NS : List M.Rule}
/-- The work under way laid into a block that was made before. -/
theorem OutQ.stored (hG : wr.heap[g]? = some (.cells #[.int .i64 0, .slice none 0 0, .slice none 0 0, .int .i64 0] ew (0, 0))) (hlo : lo ≤ g) (hA : OwnS wr lo e 2 A n c us) (hB : OwnS wr lo e 2 B m d vs) (ha : apartS A c B d) (hne : e ≠ ew) :
    OutQ e ew lo ((((wr.setCell ⟨g, 0, none⟩ (.int .i64 k)).setCell ⟨g, 1, none⟩ (.slice A n c)).setCell ⟨g, 2, none⟩ (.slice B m d)).setCell ⟨g, 3, none⟩ (.int .i64 t)) g k A n c us B m d vs t := by
  have h0 := heap_setCell_same wr g 0 _ _ (.int .i64 k) hG
  have h1 := heap_setCell_same _ g 1 _ _ (.slice A n c) h0
  have h2 := heap_setCell_same _ g 2 _ _ (.slice B m d) h1
  exact ⟨heap_setCell_same _ g 3 _ _ (.int .i64 t) h2, hlo, (((hA.setApart hG hne _ _).setApart h0 hne _ _).setApart h1 hne _ _).setApart h2 hne _ _, (((hB.setApart hG hne _ _).setApart h0 hne _ _).setApart h1 hne _ _).setApart h2 hne _ _, ha⟩
/-- The queue put in place of the old one. -/
theorem OutQ.setQ (q : OutQ e ew lo wr g k A n c us B m d vs t) (hne : e ≠ ew) (hN : OwnS wr lo e 2 A' n6 c' xs) (ha : apartS A c A' c') : OutQ e ew lo (wr.setCell ⟨g, 2, none⟩ (.slice A' n6 c')) g k A n c us A' n6 c' xs t :=
  ⟨heap_setCell_same wr g 2 _ _ _ q.1, q.2.1, q.2.2.1.setApart q.1 hne _ _, hN.setApart q.1 hne _ _, ha⟩
/-- In the first loop: the queue, the rules kept, both the call's own; the new rule in a block of its own. -/
def LoopA (W9 wr : World) (e : TypeId) (g7 : Nat) (r : M.Rule) (A6 : Option Addr) (n6 c6 : Nat) (q6 : List M.Rule) (A8 : Option Addr) (n8 c8 : Nat) (ks : List M.Rule) : Prop :=
  Below W9.heap.size W9 wr ∧ wr.heap[g7]? = some (.cells #[.string ⟨r.left.toArray⟩, .string ⟨r.right.toArray⟩] e (0, 0)) ∧ OwnS wr W9.heap.size e 2 A6 n6 c6 (ruls q6) ∧ OwnS wr W9.heap.size e 2 A8 n8 c8 (ruls ks) ∧ apartS A6 c6 A8 c8 ∧ (∀ y, blkS A6 c6 = some y → y ≠ g7) ∧ (∀ y, blkS A8 c8 = some y → y ≠ g7)
theorem LoopA.lt7 (q : LoopA W9 wr e g7 r A6 n6 c6 q6 A8 n8 c8 ks) : g7 < wr.heap.size := (Array.getElem?_eq_some_iff.1 q.2.1).1
theorem LoopA.below (q : LoopA W9 wr e g7 r A6 n6 c6 q6 A8 n8 c8 ks) (hb : Below wr.heap.size wr w') : LoopA W9 w' e g7 r A6 n6 c6 q6 A8 n8 c8 ks :=
  ⟨q.1.trans (hb.mono q.1.size), (hb.block _ q.lt7).trans q.2.1, q.2.2.1.below hb, q.2.2.2.1.below hb, q.2.2.2.2⟩
theorem LoopA.tab (q : LoopA W9 wr e g7 r A6 n6 c6 q6 A8 n8 c8 ks) : wr.cell? ⟨g7, 0, none⟩ = some (.string ⟨r.left.toArray⟩) ∧ wr.cell? ⟨g7, 1, none⟩ = some (.string ⟨r.right.toArray⟩) := ⟨(cell_of_row _ _ 0 _ _ _ q.2.1).trans rfl, (cell_of_row _ _ 1 _ _ _ q.2.1).trans rfl⟩
theorem new_off {A A' : Option Addr} {c c' g : Nat} (h : ∀ y, blkS A c = some y → y ≠ g) (hlt : g < wr.heap.size) (hat : (A' = A ∧ c' = c) ∨ blkS A' c' = none ∨ blkS A' c' = some wr.heap.size) : ∀ y, blkS A' c' = some y → y ≠ g := fun y hy => by
  rcases hat with ⟨rfl, rfl⟩ | h0 | h0
  · exact h y hy
  · rw [h0] at hy; cases hy
  · rw [h0] at hy
    injection hy with hy
    omega
theorem LoopA.push6 (q : LoopA W9 wr e g7 r A6 n6 c6 q6 A8 n8 c8 ks) (hg : wr.grownBy w' (blkS A6 c6)) (hat : (A6' = A6 ∧ c6' = c6) ∨ blkS A6' c6' = none ∨ blkS A6' c6' = some wr.heap.size) (ho : OwnS w' W9.heap.size e 2 A6' (n6 + 1) c6' (ruls q6 ++ ruleCells x)) :
    LoopA W9 w' e g7 r A6' (n6 + 1) c6' (q6 ++ [x]) A8 n8 c8 ks := by
  obtain ⟨hB, h7, o6, o8, ha, a6, a8⟩ := q
  have hlt := (Array.getElem?_eq_some_iff.1 h7).1
  exact ⟨hB.trans ((Below.refl _ _).grown hg hB.size (fun _ hk => (o6.lt _ hk).1)), (hg.block g7 hlt (fun ex => a6 g7 ex.symm rfl)).trans h7, by rw [ruls_snoc]; exact ho, ha.keep o8 hg, ha.next o8 hat, new_off a6 hlt hat, a8⟩
theorem LoopA.push8 (q : LoopA W9 wr e g7 r A6 n6 c6 q6 A8 n8 c8 ks) (hg : wr.grownBy w' (blkS A8 c8)) (hat : (A8' = A8 ∧ c8' = c8) ∨ blkS A8' c8' = none ∨ blkS A8' c8' = some wr.heap.size) (ho : OwnS w' W9.heap.size e 2 A8' (n8 + 1) c8' (ruls ks ++ ruleCells x)) :
    LoopA W9 w' e g7 r A6 n6 c6 q6 A8' (n8 + 1) c8' (ks ++ [x]) := by
  obtain ⟨hB, h7, o6, o8, ha, a6, a8⟩ := q
  have hlt := (Array.getElem?_eq_some_iff.1 h7).1
  exact ⟨hB.trans ((Below.refl _ _).grown hg hB.size (fun _ hk => (o8.lt _ hk).1)), (hg.block g7 hlt (fun ex => a8 g7 ex.symm rfl)).trans h7, ha.symm.keep o6 hg, by rw [ruls_snoc]; exact ho, (ha.symm.next o6 hat).symm, a6, new_off a8 hlt hat⟩
/-- In the second loop: the new system in its block, its rules so far. -/
def InsR (wl wr : World) (k : Int) (e es : TypeId) (N : Option Addr) (j c' : Nat) (xs : List M.Rule) : Prop :=
  Below wl.heap.size wl wr ∧ wr.heap[wl.heap.size]? = some (.cells #[.int .i64 k, .slice N j c'] es (0, 0)) ∧ OwnS wr (wl.heap.size + 1) e 2 N j c' (ruls xs)
theorem InsR.lt {wl : World} {j : Nat} (q : InsR wl wr k e es N j c' ks) : wl.heap.size < wr.heap.size := (Array.getElem?_eq_some_iff.1 q.2.1).1
theorem InsR.below {wl : World} {j : Nat} (q : InsR wl wr k e es N j c' ks) (hb : Below wr.heap.size wr w') : InsR wl w' k e es N j c' ks := ⟨q.1.trans (hb.mono q.1.size), (hb.block _ q.lt).trans q.2.1, q.2.2.below hb⟩
theorem InsR.tab {wl : World} {j : Nat} (q : InsR wl wr k e es N j c' ks) : wr.cell? ⟨wl.heap.size, 0, none⟩ = some (.int .i64 k) ∧ wr.cell? ⟨wl.heap.size, 1, none⟩ = some (.slice N j c') := ⟨(cell_of_row _ _ 0 _ _ _ q.2.1).trans rfl, (cell_of_row _ _ 1 _ _ _ q.2.1).trans rfl⟩
theorem InsR.push {wl : World} {j c7 : Nat} {N' : Option Addr} (q : InsR wl wr k e es N j c' ks) (hne : e ≠ es) (hg : wr.grownBy w' (blkS N c')) (ho : OwnS w' (wl.heap.size + 1) e 2 N' (j + 1) c7 (ruls ks ++ ruleCells x)) :
    w'.cell? ⟨wl.heap.size, 1, none⟩ = some (.slice N j c') ∧ w'.frozen? ⟨wl.heap.size, 1, none⟩ = false ∧ InsR wl (w'.setCell ⟨wl.heap.size, 1, none⟩ (.slice N' (j + 1) c7)) k e es N' (j + 1) c7 (ks ++ [x]) := by
  have hb : Below (wl.heap.size + 1) wr w' := (Below.refl _ _).grown hg q.lt (fun _ hk => (q.2.2.lt _ hk).1)
  have hG : w'.heap[wl.heap.size]? = some (.cells #[.int .i64 k, .slice N j c'] es (0, 0)) := (hb.block _ (Nat.lt_succ_self _)).trans q.2.1
  exact ⟨(cell_of_row _ _ 1 _ _ _ hG).trans rfl, frozen_of_row _ _ 1 _ _ hG, (q.1.trans (hb.mono (Nat.le_succ _))).setCell (Nat.le_refl _) _, heap_setCell_same _ _ 1 _ _ _ hG, by rw [ruls_snoc]; exact ho.setApart hG hne _ _⟩
/-- In the last loop: the queue, the new system in its block, its rules, the pairs. -/
def LoopC (W9 wr : World) (e es ep : TypeId) (k : Int) (A6 : Option Addr) (n6 c6 : Nat) (q6 : List M.Rule) (g12 : Nat) (N : Option Addr) (nn cN : Nat) (NS : List M.Rule) (D : Option Addr) (np cd : Nat) (us : List Value) : Prop :=
  Below W9.heap.size W9 wr ∧ wr.heap[g12]? = some (.cells #[.int .i64 k, .slice N nn cN] es (0, 0)) ∧ OwnS wr W9.heap.size e 2 A6 n6 c6 (ruls q6) ∧ OwnS wr W9.heap.size e 2 N nn cN (ruls NS) ∧ apartS A6 c6 N cN ∧ OwnS wr W9.heap.size ep 5 D np cd us
theorem LoopC.lt12 (q : LoopC W9 wr e es ep k A6 n6 c6 q6 g12 N nn cN NS D np cd us) : g12 < wr.heap.size := (Array.getElem?_eq_some_iff.1 q.2.1).1
theorem LoopC.below (q : LoopC W9 wr e es ep k A6 n6 c6 q6 g12 N nn cN NS D np cd us) (hb : Below wr.heap.size wr w') : LoopC W9 w' e es ep k A6 n6 c6 q6 g12 N nn cN NS D np cd us :=
  ⟨q.1.trans (hb.mono q.1.size), (hb.block _ q.lt12).trans q.2.1, q.2.2.1.below hb, q.2.2.2.1.below hb, q.2.2.2.2.1, q.2.2.2.2.2.below hb⟩
theorem LoopC.tab (q : LoopC W9 wr e es ep k A6 n6 c6 q6 g12 N nn cN NS D np cd us) : wr.cell? ⟨g12, 0, none⟩ = some (.int .i64 k) ∧ wr.cell? ⟨g12, 1, none⟩ = some (.slice N nn cN) := ⟨(cell_of_row _ _ 0 _ _ _ q.2.1).trans rfl, (cell_of_row _ _ 1 _ _ _ q.2.1).trans rfl⟩
theorem LoopC.push (q : LoopC W9 wr e es ep k A6 n6 c6 q6 g12 N nn cN NS D np cd us) (hes : e ≠ es) (hep : e ≠ ep) (hg : wr.grownBy w' (blkS A6 c6)) (hat : (A6' = A6 ∧ c6' = c6) ∨ blkS A6' c6' = none ∨ blkS A6' c6' = some wr.heap.size) (ho : OwnS w' W9.heap.size e 2 A6' (n6 + 1) c6' (ruls q6 ++ ruleCells x)) :
    LoopC W9 w' e es ep k A6' (n6 + 1) c6' (q6 ++ [x]) g12 N nn cN NS D np cd us := by
  obtain ⟨hB, h12, o6, oN, ha, oD⟩ := q
  exact ⟨hB.trans ((Below.refl _ _).grown hg hB.size (fun _ hk => (o6.lt _ hk).1)), (hg.block g12 (Array.getElem?_eq_some_iff.1 h12).1 (fun ex => by
    obtain ⟨cu, h1⟩ := o6.type ex.symm
    rw [h12] at h1
    simp at h1
    exact hes h1.2.symm)).trans h12, by rw [ruls_snoc]; exact ho, ha.keep oN hg, ha.next oN hat, oD.grown hg (oD.apart o6 hep.symm)⟩
end
end Go.Proofs.Ytlohpphmamapeaa
/-
  slices.Clone of rules, whether the slice is nil or not.
  Conditions: at most 2^20 rules.
-/
namespace Go.Proofs.Ytlohpphmamapeaa
open Go.RowKit
set_option linter.unusedVariables false
set_option linter.unusedSimpArgs false
set_option maxRecDepth 100000 in
set_option maxHeartbeats 1000000 in
theorem cloneRule_nil (c : Nat) (w : World) :
    Calls Try.prog 101 #[.slice none 0 c] w fun e w' => e = .returned (.slice none 0 0) ∧ w = w' := by
  have q22 := fun W => Lib.run_eql_slice_nil (P := Try.prog) W 26 _ none 0 c 0 0 Try.underlying26
  go_enter Try.func101, Try.ntmps101
  go_wp2_with fail
  go_ret
  exact ⟨rfl, rfl⟩
theorem cloneRule_any (A : Option Addr) (c : Nat) (rs : List M.Rule) (w : World) (hA : Rd w 2 A rs.length (ruls rs)) (hl : rs.length ≤ 1048576) :
    Calls Try.prog 101 #[.slice A rs.length c] w (RetRow 84 2 rs.length (ruls rs) w) := by
  cases A with
  | some ad => exact cloneRule_c ad c rs w hA hl
  | none =>
    have h0 : rs = [] := by
      cases rs with
      | nil => rfl
      | cons r rs =>
        obtain ⟨b, o, e, _⟩ := hA.2 (by simp)
        cases e
    subst h0
    refine (cloneRule_nil c w).mono ?_
    rintro e w' ⟨rfl, rfl⟩
    exact ⟨none, 0, rfl, World.ownsRow_nil w _ _ _, Below.refl _ _⟩
end Go.Proofs.Ytlohpphmamapeaa
/-
  Region 1 of the program's TurnWork: whatever order is drawn, the same stands behind it.
  Conditions: what the text says of the state ahead of the region.
-/
namespace Go.Proofs.Ytlohpphmamapeaa
open Go.RowKit
set_option linter.unusedVariables false
set_option linter.unusedSimpArgs false
/-- A region of a code, by its number. -/
def subCode (n : Nat) : Code → Option Code
  | .region m ops d => if m = n then some (.region m ops d) else none
  | .seq a b => match subCode n a with
    | some c => some c
    | none => subCode n b
  | .cond _ a b => match subCode n a with
    | some c => some c
    | none => subCode n b
  | .block _ b => subCode n b
  | .loop b => subCode n b
  | _ => none
set_option maxRecDepth 100000 in
set_option maxHeartbeats 16000000 in
theorem turn_r1 {k t : Int} {A B : Option Addr} {n c m d : Nat} {rs qs : List M.Rule} {w w0 : World} (K0 : Act → World → Prop) (Q : Exit → Act → World → Prop) (hQ : ∀ c a w dst v, Q (.panic c) (a.put dst v) w → Q (.panic c) a w) (hA : ∀ W, Below w.heap.size w W → Rd W 2 A n (ruls rs)) (hB : ∀ W, Below w.heap.size w W → Rd W 2 B m (ruls qs)) (hcA : ∀ W, Rd W 2 A n (ruls rs) → Calls Try.prog 101 #[.slice A n c] W (RetRow 84 2 n (ruls rs) W)) (hcB : ∀ W, Rd W 2 B m (ruls qs) → Calls Try.prog 101 #[.slice B m d] W (RetRow 84 2 m (ruls qs) W)) (h0 : CopyS w w0 k A n c B m d t)
    (cont : ∀ (W : World) (g : Nat) (A1 : Option Addr) (c1 : Nat) (B1 : Option Addr) (d1 : Nat) (v22 v23 v24 v25 v26 v27 v28 v29 v30 v31 v32 v33 v34 v35 : Value), CopyS w W k A n c B m d t → OutQ 84 60 (w.heap.size + 2) W g k A1 n c1 (ruls rs) B1 m d1 (ruls qs) t → K0 ⟨#[.agg #[.int .i64 k, .slice A n c, .slice B m d, .int .i64 t], .pointer (some ⟨w.heap.size, 0, none⟩), .pointer (some ⟨w.heap.size + 1, 0, none⟩), .int .i64 0, .pointer (some ⟨g, 0, none⟩), undef, undef, undef, undef, undef, undef, undef, undef, undef, undef, undef, undef, undef, undef, undef, undef, undef, v22, v23, v24, v25, v26, v27, v28, v29, v30, v31, v32, v33, v34, v35, undef, undef, undef, undef, undef, undef, undef, undef, undef, undef, undef, undef, undef, undef, undef, undef, undef, undef, undef, undef, undef, undef, undef, undef, undef, undef, undef, undef, undef, undef, undef, undef, undef, undef, undef, undef, undef, undef, undef, undef, undef, undef, undef, undef, undef, undef, undef, undef, undef, undef, undef, undef, undef, undef, undef, undef, undef, undef, undef, undef, undef, undef, undef, undef, undef, undef, undef, undef, undef, undef, undef, undef, undef, undef, undef, undef, undef, undef, undef, undef, undef, undef, undef, undef, undef, undef, undef, undef, undef, undef, undef, undef, undef, undef, undef, undef, undef, undef, undef, undef, undef, undef, undef, undef, undef, undef, undef, undef, undef, undef, undef, undef, undef, undef, undef, undef, undef, undef, undef, undef, undef, undef, undef, undef, undef, undef, undef, undef, undef, undef, undef, undef, undef, undef, undef, undef, undef, undef, undef, undef, undef, undef, undef, undef, undef, undef, undef, undef, undef, undef, undef, undef, undef, undef, undef, undef, undef, undef, undef, undef, undef, undef, undef, undef, undef, undef, undef, undef, undef, undef, undef, undef, undef, undef, undef, undef, undef, undef, undef, undef, undef, undef], []⟩ W) :
    Code.wp Try.prog ((Try.f44.body.bind (subCode 1)).getD .skip) (Exit.then K0 Q) ⟨#[.agg #[.int .i64 k, .slice A n c, .slice B m d, .int .i64 t], .pointer (some ⟨w.heap.size, 0, none⟩), .pointer (some ⟨w.heap.size + 1, 0, none⟩), .int .i64 0, undef, undef, undef, undef, undef, undef, undef, undef, undef, undef, undef, undef, undef, undef, undef, undef, undef, undef, undef, undef, undef, undef, undef, undef, undef, undef, undef, undef, undef, undef, undef, undef, undef, undef, undef, undef, undef, undef, undef, undef, undef, undef, undef, undef, undef, undef, undef, undef, undef, undef, undef, undef, undef, undef, undef, undef, undef, undef, undef, undef, undef, undef, undef, undef, undef, undef, undef, undef, undef, undef, undef, undef, undef, undef, undef, undef, undef, undef, undef, undef, undef, undef, undef, undef, undef, undef, undef, undef, undef, undef, undef, undef, undef, undef, undef, undef, undef, undef, undef, undef, undef, undef, undef, undef, undef, undef, undef, undef, undef, undef, undef, undef, undef, undef, undef, undef, undef, undef, undef, undef, undef, undef, undef, undef, undef, undef, undef, undef, undef, undef, undef, undef, undef, undef, undef, undef, undef, undef, undef, undef, undef, undef, undef, undef, undef, undef, undef, undef, undef, undef, undef, undef, undef, undef, undef, undef, undef, undef, undef, undef, undef, undef, undef, undef, undef, undef, undef, undef, undef, undef, undef, undef, undef, undef, undef, undef, undef, undef, undef, undef, undef, undef, undef, undef, undef, undef, undef, undef, undef, undef, undef, undef, undef, undef, undef, undef, undef, undef, undef, undef, undef, undef, undef, undef, undef, undef, undef, undef, undef, undef, undef, undef, undef, undef], []⟩ w0 := by
  have H0 := Lib.hid h0
  have HA := Lib.hid hA
  have HB := Lib.hid hB
  have HCA := Lib.hid hcA
  have HCB := Lib.hid hcB
  clear h0 hA hB hcA hcB
  show Code.wp Try.prog (Code.region 1 _ true) _ _ _
  have KD := (Below.refl w0.heap.size w0).drew
  obtain ⟨⟨e0, e1, e2, e3⟩, _⟩ := H0.out
  have TD : w0.drew.cell? ⟨w.heap.size, 0, none⟩ = some (.int .i64 k) ∧ w0.drew.cell? ⟨w.heap.size, 1, none⟩ = some (.slice A n c) ∧ w0.drew.cell? ⟨w.heap.size, 2, none⟩ = some (.slice B m d) ∧ w0.drew.cell? ⟨w.heap.size, 3, none⟩ = some (.int .i64 t) := ⟨cellKeep KD e0, cellKeep KD e1, cellKeep KD e2, cellKeep KD e3⟩
  have HLO := Lib.hid H0.out.2.2.2.1
  have HWW := Lib.hid (fun W (hb : Below w0.heap.size w0 W) => H0.out.2.2.2.2.trans (hb.mono H0.out.2.2.2.2.size))
  clear e0 e1 e2 e3
  refine wp_region_U (fun w' => w'.cell? ⟨w.heap.size, 0, none⟩ = some (.int .i64 k) ∧ w'.cell? ⟨w.heap.size, 1, none⟩ = some (.slice A n c) ∧ w'.cell? ⟨w.heap.size, 2, none⟩ = some (.slice B m d) ∧ w'.cell? ⟨w.heap.size, 3, none⟩ = some (.int .i64 t)) 15 (by kernel_rfl) (TD) (fun hHeld => ?_)
  refine takeU (i := 0) (v := ?v1) rfl (by kernel_rfl) (fun _ _ _ h => hQ _ _ _ _ _ h) (Or.inl ⟨by rfl, ?hy1⟩) (by assumption) ?rest1
  case hy1 => (intro w hSw; (try dsimp only at hSw); (first | (go_simp; done) | (go_simp; with_reducible rfl)))
  case rest1 =>
    try simp only [Act.put, List.setIfInBounds_toArray, List.set_cons_zero, List.set_cons_succ]
    refine takeU (i := 1) (v := ?v2) rfl (by kernel_rfl) (fun _ _ _ h => hQ _ _ _ _ _ h) (Or.inl ⟨by rfl, ?hy2⟩) (by assumption) ?rest2
    case hy2 => (intro w hSw; (try dsimp only at hSw); (first | (go_simp; done) | (go_simp; with_reducible rfl)))
    case rest2 =>
      try simp only [Act.put, List.setIfInBounds_toArray, List.set_cons_zero, List.set_cons_succ]
      refine takeU (i := 2) (v := ?v3) rfl (by kernel_rfl) (fun _ _ _ h => hQ _ _ _ _ _ h) (Or.inl ⟨by rfl, ?hy3⟩) (by assumption) ?rest3
      case hy3 => (intro w hSw; (try dsimp only at hSw); (first | (go_simp; done) | (go_simp; with_reducible rfl)))
      case rest3 =>
        try simp only [Act.put, List.setIfInBounds_toArray, List.set_cons_zero, List.set_cons_succ]
        refine takeU (i := 3) (v := ?v4) rfl (by kernel_rfl) (fun _ _ _ h => hQ _ _ _ _ _ h) (Or.inl ⟨by rfl, ?hy4⟩) (by assumption) ?rest4
        case hy4 => (intro w hSw; (try dsimp only at hSw); (first | (go_simp; done) | (go_simp; with_reducible rfl)))
        case rest4 =>
          try simp only [Act.put, List.setIfInBounds_toArray, List.set_cons_zero, List.set_cons_succ]
          refine takeU (i := 4) (v := ?v5) rfl (by kernel_rfl) (fun _ _ _ h => hQ _ _ _ _ _ h) (Or.inl ⟨by rfl, ?hy5⟩) (by assumption) ?rest5
          case hy5 => (intro w hSw; (try dsimp only at hSw); (first | (go_simp; done) | (go_simp; with_reducible rfl)))
          case rest5 =>
            try simp only [Act.put, List.setIfInBounds_toArray, List.set_cons_zero, List.set_cons_succ]
            refine takeU (i := 5) (v := ?v6) rfl (by kernel_rfl) (fun _ _ _ h => hQ _ _ _ _ _ h) (Or.inl ⟨by rfl, ?hy6⟩) (by assumption) ?rest6
            case hy6 => (intro w hSw; (try dsimp only at hSw); (first | (go_simp; done) | (go_simp; with_reducible rfl)))
            case rest6 =>
              try simp only [Act.put, List.setIfInBounds_toArray, List.set_cons_zero, List.set_cons_succ]
              refine takeU (i := 8) (v := ?v7) rfl (by kernel_rfl) (fun _ _ _ h => hQ _ _ _ _ _ h) (Or.inl ⟨by rfl, ?hy7⟩) (by assumption) ?rest7
              case hy7 => (intro w hSw; (try dsimp only at hSw); (first | (go_simp; done) | (go_simp; with_reducible rfl)))
              case rest7 =>
                try simp only [Act.put, List.setIfInBounds_toArray, List.set_cons_zero, List.set_cons_succ]
                refine takeU (i := 9) (v := ?v8) rfl (by kernel_rfl) (fun _ _ _ h => hQ _ _ _ _ _ h) (Or.inl ⟨by rfl, ?hy8⟩) (by assumption) ?rest8
                case hy8 => (intro w hSw; (try dsimp only at hSw); (first | (go_simp; done) | (go_simp; with_reducible rfl)))
                case rest8 =>
                  try simp only [Act.put, List.setIfInBounds_toArray, List.set_cons_zero, List.set_cons_succ]
                  refine takeU (i := 11) (v := ?v9) rfl (by kernel_rfl) (fun _ _ _ h => hQ _ _ _ _ _ h) (Or.inl ⟨by rfl, ?hy9⟩) (by assumption) ?rest9
                  case hy9 => (intro w hSw; (try dsimp only at hSw); (first | (go_simp; done) | (go_simp; with_reducible rfl)))
                  case rest9 =>
                    try simp only [Act.put, List.setIfInBounds_toArray, List.set_cons_zero, List.set_cons_succ]
                    refine takeU (i := 12) (v := ?v10) rfl (by kernel_rfl) (fun _ _ _ h => hQ _ _ _ _ _ h) (Or.inl ⟨by rfl, ?hy10⟩) (by assumption) ?rest10
                    case hy10 => (intro w hSw; (try dsimp only at hSw); (first | (go_simp; done) | (go_simp; with_reducible rfl)))
                    case rest10 =>
                      try simp only [Act.put, List.setIfInBounds_toArray, List.set_cons_zero, List.set_cons_succ]
                      refine wpAnyU_ready (rs := [6, 14]) (by kernel_rfl) (by simp) ?_
                      refine consU rfl (fun K hK => ?_) ?_
                      · go_simp
                        go_at_call 101
                        refine (HCA.out _ (HA.out _ (HWW.out _ KD))).mono ?_
                        rintro e wA ⟨A1, c1, rfl, hown, hbA⟩
                        have OA := (OwnS.of_row hown).mono (base' := w.heap.size + 2) (by have h1 := HLO.out; have h2 := KD.size; first | omega | (simp at h2 ⊢; omega))
                        have K1 := KD.trans (hbA.mono KD.size)
                        have T1 : _ ∧ _ ∧ _ ∧ _ := ⟨cellKeep hbA TD.1, cellKeep hbA TD.2.1, cellKeep hbA TD.2.2.1, cellKeep hbA TD.2.2.2⟩
                        refine hK.out _ _ (T1) (fun hHeld => ?_)
                        clear hK K
                        try simp only [Act.put, List.setIfInBounds_toArray, List.set_cons_zero, List.set_cons_succ]
                        refine takeU (i := 7) (v := ?v11) rfl (by kernel_rfl) (fun _ _ _ h => hQ _ _ _ _ _ h) (Or.inl ⟨by rfl, ?hy11⟩) (by assumption) ?rest11
                        case hy11 => (intro w hSw; (try dsimp only at hSw); (first | (go_simp; done) | (go_simp; with_reducible rfl)))
                        case rest11 =>
                          try simp only [Act.put, List.setIfInBounds_toArray, List.set_cons_zero, List.set_cons_succ]
                          refine wpAnyU_ready (rs := [10, 14]) (by kernel_rfl) (by simp) ?_
                          refine consU rfl (fun K hK => ?_) ?_
                          · go_simp
                            go_at_call 101
                            refine (HCB.out _ (HB.out _ (HWW.out _ K1))).mono ?_
                            rintro e wB ⟨B1, d1, rfl, hown, hbB⟩
                            have OB := (OwnS.of_row hown).mono (base' := w.heap.size + 2) (by have h1 := HLO.out; have h2 := K1.size; first | omega | (simp at h2 ⊢; omega))
                            have AP : apartS A1 c1 B1 d1 := fun x h1 h2 => by have h3 := (OA.lt x h1).2; have h4 := ((OwnS.of_row hown).lt x h2).1; (first | omega | (simp at h3 h4; omega))
                            have K2 := K1.trans (hbB.mono K1.size)
                            have T2 : _ ∧ _ ∧ _ ∧ _ := ⟨cellKeep hbB T1.1, cellKeep hbB T1.2.1, cellKeep hbB T1.2.2.1, cellKeep hbB T1.2.2.2⟩
                            have OA2 := OA.below hbB
                            refine hK.out _ _ (T2) (fun hHeld => ?_)
                            clear hK K
                            try simp only [Act.put, List.setIfInBounds_toArray, List.set_cons_zero, List.set_cons_succ]
                            refine takeU (i := 13) (v := ?v12) rfl (by kernel_rfl) (fun _ _ _ h => hQ _ _ _ _ _ h) (Or.inl ⟨by rfl, ?hy12⟩) (by assumption) ?rest12
                            case hy12 => (intro w hSw; (try dsimp only at hSw); (first | (go_simp; done) | (go_simp; with_reducible rfl)))
                            case rest12 =>
                              try simp only [Act.put, List.setIfInBounds_toArray, List.set_cons_zero, List.set_cons_succ]
                              refine wpAnyU_ready (rs := [14]) (by kernel_rfl) (by simp) ?_
                              refine consU rfl (fun K hK => ?_) ?_
                              · have NG : w.heap.size + 2 ≤ wB.heap.size := by have h1 := HLO.out; have h2 := K2.size; first | omega | (simp at h2 ⊢; omega)
                                have NZ : w0.heap.size ≤ wB.heap.size := by have h2 := K2.size; first | omega | (simp at h2 ⊢; omega)
                                go_simp
                                have K3 := K2.trans ((ref_al _ (.cells #[.int .i64 0, .slice none 0 0, .slice none 0 0, .int .i64 0] 60)).mono K2.size)
                                have T3 : _ ∧ _ ∧ _ ∧ _ := ⟨cellKeep (ref_al _ (.cells #[.int .i64 0, .slice none 0 0, .slice none 0 0, .int .i64 0] 60)) T2.1, cellKeep (ref_al _ (.cells #[.int .i64 0, .slice none 0 0, .slice none 0 0, .int .i64 0] 60)) T2.2.1, cellKeep (ref_al _ (.cells #[.int .i64 0, .slice none 0 0, .slice none 0 0, .int .i64 0] 60)) T2.2.2.1, cellKeep (ref_al _ (.cells #[.int .i64 0, .slice none 0 0, .slice none 0 0, .int .i64 0] 60)) T2.2.2.2⟩
                                have OA3 := OA2.below (ref_al _ (.cells #[.int .i64 0, .slice none 0 0, .slice none 0 0, .int .i64 0] 60))
                                have OB3 := OB.below (ref_al _ (.cells #[.int .i64 0, .slice none 0 0, .slice none 0 0, .int .i64 0] 60))
                                have G3 : ((wB.alloc (.cells #[.int .i64 0, .slice none 0 0, .slice none 0 0, .int .i64 0] 60))).heap[wB.heap.size]? = some (.cells #[.int .i64 0, .slice none 0 0, .slice none 0 0, .int .i64 0] 60 (0, 0)) := heap_alloc_new _ _
                                refine hK.out _ _ (T3) (fun hHeld => ?_)
                                clear hK K
                                try simp only [Act.put, List.setIfInBounds_toArray, List.set_cons_zero, List.set_cons_succ]
                                refine wpAnyU_ready (rs := [15]) (by kernel_rfl) (by simp) ?_
                                refine lastU rfl (fun K hK => ?_)
                                have y0 : ((wB.alloc (.cells #[.int .i64 0, .slice none 0 0, .slice none 0 0, .int .i64 0] 60))).cell? ⟨wB.heap.size, 0, none⟩ = some (.int .i64 0) := (cell_of_row _ _ 0 _ _ _ G3).trans rfl
                                have z0 : ((wB.alloc (.cells #[.int .i64 0, .slice none 0 0, .slice none 0 0, .int .i64 0] 60))).frozen? ⟨wB.heap.size, 0, none⟩ = false := frozen_of_row _ _ 0 _ _ G3
                                have y1 : ((wB.alloc (.cells #[.int .i64 0, .slice none 0 0, .slice none 0 0, .int .i64 0] 60))).cell? ⟨wB.heap.size, 1, none⟩ = some (.slice none 0 0) := (cell_of_row _ _ 1 _ _ _ G3).trans rfl
                                have z1 : ((wB.alloc (.cells #[.int .i64 0, .slice none 0 0, .slice none 0 0, .int .i64 0] 60))).frozen? ⟨wB.heap.size, 1, none⟩ = false := frozen_of_row _ _ 1 _ _ G3
                                have y2 : ((wB.alloc (.cells #[.int .i64 0, .slice none 0 0, .slice none 0 0, .int .i64 0] 60))).cell? ⟨wB.heap.size, 2, none⟩ = some (.slice none 0 0) := (cell_of_row _ _ 2 _ _ _ G3).trans rfl
                                have z2 : ((wB.alloc (.cells #[.int .i64 0, .slice none 0 0, .slice none 0 0, .int .i64 0] 60))).frozen? ⟨wB.heap.size, 2, none⟩ = false := frozen_of_row _ _ 2 _ _ G3
                                have y3 : ((wB.alloc (.cells #[.int .i64 0, .slice none 0 0, .slice none 0 0, .int .i64 0] 60))).cell? ⟨wB.heap.size, 3, none⟩ = some (.int .i64 0) := (cell_of_row _ _ 3 _ _ _ G3).trans rfl
                                have z3 : ((wB.alloc (.cells #[.int .i64 0, .slice none 0 0, .slice none 0 0, .int .i64 0] 60))).frozen? ⟨wB.heap.size, 3, none⟩ = false := frozen_of_row _ _ 3 _ _ G3
                                go_simp
                                refine hK.out _ _ ?_
                                clear hK K
                                try simp only [Act.put, List.setIfInBounds_toArray, List.set_cons_zero, List.set_cons_succ]
                                refine wpAnyU_done (by kernel_rfl) ?_ _
                                exact cont _ _ A1 c1 B1 d1 _ _ _ _ _ _ _ _ _ _ _ _ _ _ (H0.out.below (K2.alloc NZ _)) (OutQ.made OA2 OB AP NG)
                              exact AllU.nil
                          refine consU rfl (fun K hK => ?_) ?_
                          · have NG : w.heap.size + 2 ≤ wA.heap.size := by have h1 := HLO.out; have h2 := K1.size; first | omega | (simp at h2 ⊢; omega)
                            have NZ : w0.heap.size ≤ wA.heap.size := by have h2 := K1.size; first | omega | (simp at h2 ⊢; omega)
                            go_simp
                            have K2 := K1.trans ((ref_al _ (.cells #[.int .i64 0, .slice none 0 0, .slice none 0 0, .int .i64 0] 60)).mono K1.size)
                            have T2 : _ ∧ _ ∧ _ ∧ _ := ⟨cellKeep (ref_al _ (.cells #[.int .i64 0, .slice none 0 0, .slice none 0 0, .int .i64 0] 60)) T1.1, cellKeep (ref_al _ (.cells #[.int .i64 0, .slice none 0 0, .slice none 0 0, .int .i64 0] 60)) T1.2.1, cellKeep (ref_al _ (.cells #[.int .i64 0, .slice none 0 0, .slice none 0 0, .int .i64 0] 60)) T1.2.2.1, cellKeep (ref_al _ (.cells #[.int .i64 0, .slice none 0 0, .slice none 0 0, .int .i64 0] 60)) T1.2.2.2⟩
                            have OA2 := OA.below (ref_al _ (.cells #[.int .i64 0, .slice none 0 0, .slice none 0 0, .int .i64 0] 60))
                            have G2 : ((wA.alloc (.cells #[.int .i64 0, .slice none 0 0, .slice none 0 0, .int .i64 0] 60))).heap[wA.heap.size]? = some (.cells #[.int .i64 0, .slice none 0 0, .slice none 0 0, .int .i64 0] 60 (0, 0)) := heap_alloc_new _ _
                            refine hK.out _ _ (T2) (fun hHeld => ?_)
                            clear hK K
                            try simp only [Act.put, List.setIfInBounds_toArray, List.set_cons_zero, List.set_cons_succ]
                            refine wpAnyU_ready (rs := [10]) (by kernel_rfl) (by simp) ?_
                            refine consU rfl (fun K hK => ?_) ?_
                            · go_simp
                              go_at_call 101
                              refine (HCB.out _ (HB.out _ (HWW.out _ K2))).mono ?_
                              rintro e wB ⟨B1, d1, rfl, hown, hbB⟩
                              have OB := (OwnS.of_row hown).mono (base' := w.heap.size + 2) (by have h1 := HLO.out; have h2 := K2.size; first | omega | (simp at h2 ⊢; omega))
                              have AP : apartS A1 c1 B1 d1 := fun x h1 h2 => by have h3 := (OA2.lt x h1).2; have h4 := ((OwnS.of_row hown).lt x h2).1; (first | omega | (simp at h3 h4; omega))
                              have K3 := K2.trans (hbB.mono K2.size)
                              have T3 : _ ∧ _ ∧ _ ∧ _ := ⟨cellKeep hbB T2.1, cellKeep hbB T2.2.1, cellKeep hbB T2.2.2.1, cellKeep hbB T2.2.2.2⟩
                              have OA3 := OA2.below hbB
                              have G3 := (hbB.block _ (Array.getElem?_eq_some_iff.1 G2).1).trans G2
                              refine hK.out _ _ (T3) (fun hHeld => ?_)
                              clear hK K
                              try simp only [Act.put, List.setIfInBounds_toArray, List.set_cons_zero, List.set_cons_succ]
                              refine takeU (i := 13) (v := ?v13) rfl (by kernel_rfl) (fun _ _ _ h => hQ _ _ _ _ _ h) (Or.inl ⟨by rfl, ?hy13⟩) (by assumption) ?rest13
                              case hy13 => (intro w hSw; (try dsimp only at hSw); (first | (go_simp; done) | (go_simp; with_reducible rfl)))
                              case rest13 =>
                                try simp only [Act.put, List.setIfInBounds_toArray, List.set_cons_zero, List.set_cons_succ]
                                refine wpAnyU_ready (rs := [15]) (by kernel_rfl) (by simp) ?_
                                refine lastU rfl (fun K hK => ?_)
                                have y0 : (wB).cell? ⟨wA.heap.size, 0, none⟩ = some (.int .i64 0) := (cell_of_row _ _ 0 _ _ _ G3).trans rfl
                                have z0 : (wB).frozen? ⟨wA.heap.size, 0, none⟩ = false := frozen_of_row _ _ 0 _ _ G3
                                have y1 : (wB).cell? ⟨wA.heap.size, 1, none⟩ = some (.slice none 0 0) := (cell_of_row _ _ 1 _ _ _ G3).trans rfl
                                have z1 : (wB).frozen? ⟨wA.heap.size, 1, none⟩ = false := frozen_of_row _ _ 1 _ _ G3
                                have y2 : (wB).cell? ⟨wA.heap.size, 2, none⟩ = some (.slice none 0 0) := (cell_of_row _ _ 2 _ _ _ G3).trans rfl
                                have z2 : (wB).frozen? ⟨wA.heap.size, 2, none⟩ = false := frozen_of_row _ _ 2 _ _ G3
                                have y3 : (wB).cell? ⟨wA.heap.size, 3, none⟩ = some (.int .i64 0) := (cell_of_row _ _ 3 _ _ _ G3).trans rfl
                                have z3 : (wB).frozen? ⟨wA.heap.size, 3, none⟩ = false := frozen_of_row _ _ 3 _ _ G3
                                go_simp
                                refine hK.out _ _ ?_
                                clear hK K
                                try simp only [Act.put, List.setIfInBounds_toArray, List.set_cons_zero, List.set_cons_succ]
                                refine wpAnyU_done (by kernel_rfl) ?_ _
                                exact cont _ _ A1 c1 B1 d1 _ _ _ _ _ _ _ _ _ _ _ _ _ _ (H0.out.below ((((K3.setCell NZ _).setCell NZ _).setCell NZ _).setCell NZ _)) (OutQ.stored G3 NG OA3 OB AP (by decide))
                            exact AllU.nil
                          exact AllU.nil
                      refine consU rfl (fun K hK => ?_) ?_
                      · have NG : w.heap.size + 2 ≤ w0.heap.size := by have h1 := HLO.out; have h2 := KD.size; first | omega | (simp at h2 ⊢; omega)
                        have NZ : w0.heap.size ≤ w0.heap.size := by have h2 := KD.size; first | omega | (simp at h2 ⊢; omega)
                        go_simp
                        have K1 := KD.trans ((ref_al _ (.cells #[.int .i64 0, .slice none 0 0, .slice none 0 0, .int .i64 0] 60)).mono KD.size)
                        have T1 : _ ∧ _ ∧ _ ∧ _ := ⟨cellKeep (ref_al _ (.cells #[.int .i64 0, .slice none 0 0, .slice none 0 0, .int .i64 0] 60)) TD.1, cellKeep (ref_al _ (.cells #[.int .i64 0, .slice none 0 0, .slice none 0 0, .int .i64 0] 60)) TD.2.1, cellKeep (ref_al _ (.cells #[.int .i64 0, .slice none 0 0, .slice none 0 0, .int .i64 0] 60)) TD.2.2.1, cellKeep (ref_al _ (.cells #[.int .i64 0, .slice none 0 0, .slice none 0 0, .int .i64 0] 60)) TD.2.2.2⟩
                        have G1 : ((w0.drew.alloc (.cells #[.int .i64 0, .slice none 0 0, .slice none 0 0, .int .i64 0] 60))).heap[w0.heap.size]? = some (.cells #[.int .i64 0, .slice none 0 0, .slice none 0 0, .int .i64 0] 60 (0, 0)) := heap_alloc_new _ _
                        refine hK.out _ _ (T1) (fun hHeld => ?_)
                        clear hK K
                        try simp only [Act.put, List.setIfInBounds_toArray, List.set_cons_zero, List.set_cons_succ]
                        refine wpAnyU_ready (rs := [6]) (by kernel_rfl) (by simp) ?_
                        refine consU rfl (fun K hK => ?_) ?_
                        · go_simp
                          go_at_call 101
                          refine (HCA.out _ (HA.out _ (HWW.out _ K1))).mono ?_
                          rintro e wA ⟨A1, c1, rfl, hown, hbA⟩
                          have OA := (OwnS.of_row hown).mono (base' := w.heap.size + 2) (by have h1 := HLO.out; have h2 := K1.size; first | omega | (simp at h2 ⊢; omega))
                          have K2 := K1.trans (hbA.mono K1.size)
                          have T2 : _ ∧ _ ∧ _ ∧ _ := ⟨cellKeep hbA T1.1, cellKeep hbA T1.2.1, cellKeep hbA T1.2.2.1, cellKeep hbA T1.2.2.2⟩
                          have G2 := (hbA.block _ (Array.getElem?_eq_some_iff.1 G1).1).trans G1
                          refine hK.out _ _ (T2) (fun hHeld => ?_)
                          clear hK K
                          try simp only [Act.put, List.setIfInBounds_toArray, List.set_cons_zero, List.set_cons_succ]
                          refine takeU (i := 7) (v := ?v14) rfl (by kernel_rfl) (fun _ _ _ h => hQ _ _ _ _ _ h) (Or.inl ⟨by rfl, ?hy14⟩) (by assumption) ?rest14
                          case hy14 => (intro w hSw; (try dsimp only at hSw); (first | (go_simp; done) | (go_simp; with_reducible rfl)))
                          case rest14 =>
                            try simp only [Act.put, List.setIfInBounds_toArray, List.set_cons_zero, List.set_cons_succ]
                            refine wpAnyU_ready (rs := [10]) (by kernel_rfl) (by simp) ?_
                            refine consU rfl (fun K hK => ?_) ?_
                            · go_simp
                              go_at_call 101
                              refine (HCB.out _ (HB.out _ (HWW.out _ K2))).mono ?_
                              rintro e wB ⟨B1, d1, rfl, hown, hbB⟩
                              have OB := (OwnS.of_row hown).mono (base' := w.heap.size + 2) (by have h1 := HLO.out; have h2 := K2.size; first | omega | (simp at h2 ⊢; omega))
                              have AP : apartS A1 c1 B1 d1 := fun x h1 h2 => by have h3 := (OA.lt x h1).2; have h4 := ((OwnS.of_row hown).lt x h2).1; (first | omega | (simp at h3 h4; omega))
                              have K3 := K2.trans (hbB.mono K2.size)
                              have T3 : _ ∧ _ ∧ _ ∧ _ := ⟨cellKeep hbB T2.1, cellKeep hbB T2.2.1, cellKeep hbB T2.2.2.1, cellKeep hbB T2.2.2.2⟩
                              have OA3 := OA.below hbB
                              have G3 := (hbB.block _ (Array.getElem?_eq_some_iff.1 G2).1).trans G2
                              refine hK.out _ _ (T3) (fun hHeld => ?_)
                              clear hK K
                              try simp only [Act.put, List.setIfInBounds_toArray, List.set_cons_zero, List.set_cons_succ]
                              refine takeU (i := 13) (v := ?v15) rfl (by kernel_rfl) (fun _ _ _ h => hQ _ _ _ _ _ h) (Or.inl ⟨by rfl, ?hy15⟩) (by assumption) ?rest15
                              case hy15 => (intro w hSw; (try dsimp only at hSw); (first | (go_simp; done) | (go_simp; with_reducible rfl)))
                              case rest15 =>
                                try simp only [Act.put, List.setIfInBounds_toArray, List.set_cons_zero, List.set_cons_succ]
                                refine wpAnyU_ready (rs := [15]) (by kernel_rfl) (by simp) ?_
                                refine lastU rfl (fun K hK => ?_)
                                have y0 : (wB).cell? ⟨w0.heap.size, 0, none⟩ = some (.int .i64 0) := (cell_of_row _ _ 0 _ _ _ G3).trans rfl
                                have z0 : (wB).frozen? ⟨w0.heap.size, 0, none⟩ = false := frozen_of_row _ _ 0 _ _ G3
                                have y1 : (wB).cell? ⟨w0.heap.size, 1, none⟩ = some (.slice none 0 0) := (cell_of_row _ _ 1 _ _ _ G3).trans rfl
                                have z1 : (wB).frozen? ⟨w0.heap.size, 1, none⟩ = false := frozen_of_row _ _ 1 _ _ G3
                                have y2 : (wB).cell? ⟨w0.heap.size, 2, none⟩ = some (.slice none 0 0) := (cell_of_row _ _ 2 _ _ _ G3).trans rfl
                                have z2 : (wB).frozen? ⟨w0.heap.size, 2, none⟩ = false := frozen_of_row _ _ 2 _ _ G3
                                have y3 : (wB).cell? ⟨w0.heap.size, 3, none⟩ = some (.int .i64 0) := (cell_of_row _ _ 3 _ _ _ G3).trans rfl
                                have z3 : (wB).frozen? ⟨w0.heap.size, 3, none⟩ = false := frozen_of_row _ _ 3 _ _ G3
                                go_simp
                                refine hK.out _ _ ?_
                                clear hK K
                                try simp only [Act.put, List.setIfInBounds_toArray, List.set_cons_zero, List.set_cons_succ]
                                refine wpAnyU_done (by kernel_rfl) ?_ _
                                exact cont _ _ A1 c1 B1 d1 _ _ _ _ _ _ _ _ _ _ _ _ _ _ (H0.out.below ((((K3.setCell NZ _).setCell NZ _).setCell NZ _).setCell NZ _)) (OutQ.stored G3 NG OA3 OB AP (by decide))
                            exact AllU.nil
                        exact AllU.nil
                      exact AllU.nil
end Go.Proofs.Ytlohpphmamapeaa
/-
  Contracts of normal, and of l04Trace of the reference.
  Conditions: ordered rules, a word of at most 16 letters from a to d.
-/
namespace Go.Proofs.Ytlohpphmamapeaa
open Go.RowKit
set_option linter.unusedVariables false
set_option linter.unusedSimpArgs false

/-- The rank of the word in a slot. -/
def rankV : Value → Nat
  | .string b => M.rank b.data.toList
  | _ => 0
theorem rankV_str (l : List UInt8) : rankV (.string ⟨l.toArray⟩) = M.rank l := by simp [rankV]
set_option maxRecDepth 100000 in
set_option maxHeartbeats 4000000 in
theorem normal_c (k : Int) (A : Option Addr) (c : Nat) (rs : List M.Rule) (l : List UInt8) (w : World) (hA : Rd w 2 A rs.length (ruls rs)) (hl : rs.length ≤ 1048576) (hs : ∀ r ∈ rs, r.left.length ≤ 1048576 ∧ r.right.length ≤ 1048576) (ho : M.Ordered k rs) (hf : M.Wd k l) :
    Calls Try.prog 102 #[.agg #[.int .i64 k, .slice A rs.length c], .string ⟨l.toArray⟩] w fun e w' => e = .returned (.string ⟨(M.normal rs l).toArray⟩) ∧ Below w.heap.size w w' := by
  have HA := Lib.hid hA
  have H1 := Lib.hid (fun cur W h (hc : M.Wd k cur) => firstStep_c k A c rs cur W h hl hs (by have := hc.2.2; omega))
  have H2 := Lib.hid (show ∀ (cur : List UInt8) (i : Nat) (p : Int) (W : World), Rd W 2 A rs.length (ruls rs) → i < rs.length → M.Wd k cur → Calls Try.prog 105 #[.agg #[.int .i64 k, .slice A rs.length c], .string ⟨cur.toArray⟩, .agg #[.int .i64 (i : Int), .int .i64 p]] W (fun e w' => e = .returned (.tuple #[.string ⟨(M.replaced rs cur ⟨(i : Int), p⟩).1.toArray⟩, .bool (M.replaced rs cur ⟨(i : Int), p⟩).2]) ∧ Below W.heap.size W w') from fun cur i p W h hi hc => by
    rw [replaced_at hi]
    exact apply_c k A c rs cur i p W h hi hl hs (by have := hc.2.2; omega))
  have HO := Lib.hid ho
  have HF := Lib.hid hf
  clear hA hs ho hf
  obtain ⟨m, hm⟩ : ∃ m, m = rs.length := ⟨_, rfl⟩
  have HM := Lib.hid hm
  rw [← hm] at HA H1 H2 ⊢
  clear hm hl
  go_enter Try.func102, Try.ntmps102
  go_wp2_with fail
  have TB := Lib.hid (show Below w.heap.size w (w.alloc (.cells #[.int .i64 k, .slice A m c] 28)) from (Below.refl _ _).alloc (Nat.le_refl _) _)
  have e0 : (w.alloc (.cells #[.int .i64 k, .slice A m c] 28)).cell? ⟨w.heap.size, 0, none⟩ = some (.int .i64 k) := by simp [go_sem]
  have e1 : (w.alloc (.cells #[.int .i64 k, .slice A m c] 28)).cell? ⟨w.heap.size, 1, none⟩ = some (.slice A m c) := by simp [go_sem]
  have E0 := Lib.hid e0
  have E1 := Lib.hid e1
  clear e0 e1
  refine (H1.out l _ (HA.out.below TB.out) HF.out).mono ?_
  rintro e w1 ⟨rfl, hb⟩
  have C0 := Lib.hid (cellKeep hb E0.out)
  have C1 := Lib.hid (cellKeep hb E1.out)
  have T1 := Lib.hid (TB.out.trans (hb.mono TB.out.size))
  clear hb
  obtain ⟨z, hz⟩ : ∃ z, z = M.first (M.stepsTo rs l l.length) := ⟨_, rfl⟩
  rw [← hz]
  have HZ := Lib.hid hz
  obtain ⟨⟨zr, zp⟩, zb⟩ := z
  clear hz
  simp only
  go_wp2_with fail
  go_loopw [1, 5, 6] (fun z p b wr => ∃ (cur : List UInt8) (g : Nat) (x : M.Step) (ok : Bool), z = .string ⟨cur.toArray⟩ ∧ p = .pointer (some ⟨g, 0, none⟩) ∧ b = .bool ok ∧ (x, ok) = M.first (M.stepsTo rs cur cur.length) ∧ wr.cell? ⟨g, 0, none⟩ = some (.int .i64 x.rule) ∧ wr.cell? ⟨g, 1, none⟩ = some (.int .i64 x.place) ∧ M.Wd k cur ∧ M.normal rs cur = M.normal rs l ∧ Below w1.heap.size w1 wr) (fun z _ _ _ => rankV z)
  case atStart => exact ⟨l, w1.heap.size, ⟨zr, zp⟩, zb, rfl, rfl, rfl, HZ.out, by simp [go_sem], by simp [go_sem], HF.out, rfl, (Below.refl _ _).alloc (Nat.le_refl _) _⟩
  case round =>
    obtain ⟨cur, g, ⟨xr, xp⟩, ok, rfl, rfl, rfl, hx, hg0, hg1, hw, hn, hb⟩ := hrel
    have HX := Lib.hid hx
    have HW := Lib.hid hw
    have HN := Lib.hid hn
    have HB := Lib.hid hb
    simp only at hg0 hg1
    clear hx hw hn hb
    have c0 := cellKeep HB.out C0.out
    have c1 := cellKeep HB.out C1.out
    have RA := Lib.hid (HA.out.below (T1.out.trans (HB.out.mono T1.out.size)))
    cases ok
    case false =>
      have HE := Lib.hid (show M.normal rs cur = cur from normal_none (red_none (by rw [← HX.out])))
      go_wp2_with fail
      go_ret
      exact ⟨by rw [← HN.out, HE.out]; rfl, T1.out.trans (HB.out.mono T1.out.size)⟩
    case true =>
      obtain ⟨i, p, l', hxs, hi, hp, hr, hred, hlt, hw', _⟩ := red_some HO.out HW.out (show (M.first (M.stepsTo rs cur cur.length)).2 = true by rw [← HX.out])
      rw [← HX.out] at hxs
      injection hxs with hx1 hx2
      subst hx1
      subst hx2
      have HNS := Lib.hid (show M.normal rs l' = M.normal rs l by rw [← HN.out, normal_some hred hlt])
      have HW' := Lib.hid hw'
      have him : i < m := by rw [HM.out]; exact hi
      have H3 := Lib.hid (show ∀ W, Rd W 2 A m (ruls rs) → Calls Try.prog 105 #[.agg #[.int .i64 k, .slice A m c], .string ⟨cur.toArray⟩, .agg #[.int .i64 (i : Int), .int .i64 (p : Int)]] W (fun e w' => e = .returned (.tuple #[.string ⟨l'.toArray⟩, .bool true]) ∧ Below W.heap.size W w') from fun W h => by
        have h2 := H2.out cur i (p : Int) W h him HW.out
        rw [hr] at h2
        exact h2)
      have HLT := Lib.hid hlt
      clear hr hred hlt hw' hi him
      go_wp2_with fail
      refine (H3.out _ RA.out).mono ?_
      rintro e w2 ⟨rfl, hb⟩
      have B2 := Lib.hid (HB.out.trans (hb.mono HB.out.size))
      have d0 := cellKeep hb c0
      have d1 := cellKeep hb c1
      have g0 := cellKeep hb hg0
      have g1 := cellKeep hb hg1
      have RA2 := Lib.hid (RA.out.below hb)
      clear hb c0 c1 hg0 hg1
      have AL := Lib.hid ((Below.refl w2.heap.size w2).alloc (Nat.le_refl _) (.cells #[.int .i64 (i : Int), .int .i64 (p : Int)] 129))
      have k0 := fun o => allocKeep1 d0 o
      have k1 := fun o => allocKeep1 d1 o
      have H4 := Lib.hid (fun W h => H1.out l' W h HW'.out)
      obtain ⟨z, hz⟩ : ∃ z, z = M.first (M.stepsTo rs l' l'.length) := ⟨_, rfl⟩
      rw [← hz] at H4
      have HZ2 := Lib.hid hz
      obtain ⟨⟨yr, yp⟩, yb⟩ := z
      clear hz
      simp only at H4
      go_wp2_with fail
      refine (H4.out _ (RA2.out.below AL.out)).mono ?_
      rintro e w3 ⟨rfl, hb⟩
      have a0 : w3.cell? ⟨w2.heap.size, 0, none⟩ = some (.int .i64 (i : Int)) := cellKeep hb (by simp [go_sem])
      have a1 : w3.cell? ⟨w2.heap.size, 1, none⟩ = some (.int .i64 (p : Int)) := cellKeep hb (by simp [go_sem])
      have f0 : w3.frozen? ⟨w2.heap.size, 0, none⟩ = false := ((bcell hb).2 _ _ (by simp)).trans (by simp [go_sem])
      have f1 : w3.frozen? ⟨w2.heap.size, 1, none⟩ = false := ((bcell hb).2 _ _ (by simp)).trans (by simp [go_sem])
      have B3 := Lib.hid (B2.out.trans ((below_alloc1 hb).mono B2.out.size))
      have A0 := Lib.hid a0
      have A1 := Lib.hid a1
      have hsz := B2.out.size
      clear hb k0 k1 d0 d1 g0 g1
      go_wp2_with fail
      go_roundw
      case rel => exact ⟨l', w2.heap.size, ⟨yr, yp⟩, yb, rfl, rfl, rfl, HZ2.out, (cell_set_ne _ (Or.inr (by decide))).trans (cell_set_eq _ A0.out), cell_two' A1.out _ _, HW'.out, HNS.out, (B3.out.setCell hsz _).setCell hsz _⟩
      case measure =>
        rw [rankV_str, rankV_str]
        exact HLT.out
/-- What a trace returns: some steps, and the word. -/
def RetTrace (l : List UInt8) (w : World) (e : Ending) (w' : World) : Prop := ∃ v, e = .returned (.tuple #[v, .string ⟨l.toArray⟩]) ∧ Below w.heap.size w w'
theorem rank_cap {k : Int} {l : List UInt8} (h : M.Wd k l) : M.rank l < 152587890625 := by
  have h1 := rank_lt (wd_low h)
  have h2 := Nat.pow_le_pow_right (show 0 < 5 by decide) h.2.2
  have h3 : 5 ^ 16 = 152587890625 := by decide
  omega
set_option maxRecDepth 100000 in
set_option maxHeartbeats 4000000 in
theorem l04Trace_c (k : Int) (A : Option Addr) (c : Nat) (rs : List M.Rule) (l : List UInt8) (w : World) (hA : Rd w 2 A rs.length (ruls rs)) (hl : rs.length ≤ 1048576) (hs : ∀ r ∈ rs, r.left.length ≤ 1048576 ∧ r.right.length ≤ 1048576) (ho : M.Ordered k rs) (hro : M.RulesOk k rs = true) (hf : M.Wd k l) :
    Calls Try.prog 96 #[.agg #[.int .i64 k, .slice A rs.length c], .string ⟨l.toArray⟩] w (RetTrace (M.normal rs l) w) := by
  have HA := Lib.hid hA
  have HST := Lib.hid (fun cur => steps_yes (l := cur) hro)
  have H1 := Lib.hid (show ∀ cur W, Rd W 2 A rs.length (ruls rs) → M.Wd k cur → Calls Try.prog 144 #[.agg #[.int .i64 k, .slice A rs.length c], .string ⟨cur.toArray⟩] W (fun e w' => e = .returned (.tuple #[.agg #[.int .i64 (M.first (M.stepsTo rs cur cur.length)).1.rule, .int .i64 (M.first (M.stepsTo rs cur cur.length)).1.place], .bool (M.first (M.stepsTo rs cur cur.length)).2]) ∧ Below W.heap.size W w') from fun cur W h hc => by
    have h1 := spec_FirstStep_c k A c rs cur W h hl hs (by have := hc.2.2; omega)
    unfold M.FirstStep at h1
    rw [steps_yes hro] at h1
    exact h1)
  have H2 := Lib.hid (fun cur x W h (hc : M.Wd k cur) => spec_ApplyStep_c k A c rs cur x W h hl hs (by have := hc.2.2; omega))
  have HO := Lib.hid ho
  have HF := Lib.hid hf
  have HC := Lib.hid (rank_cap hf)
  clear hA hs ho hf hro
  obtain ⟨m, hm⟩ : ∃ m, m = rs.length := ⟨_, rfl⟩
  have HM := Lib.hid hm
  rw [← hm] at HA H1 H2 ⊢
  clear hm hl
  obtain ⟨R, hR⟩ : ∃ R, R = M.rank l := ⟨_, rfl⟩
  have HR := Lib.hid hR
  rw [← hR] at HC
  clear hR
  go_enter Try.func96, Try.ntmps96
  go_wp2_with fail
  obtain ⟨w0, hw0⟩ : ∃ w0 : World, w0 = w.alloc (.cells #[.int .i64 k, .slice A m c] 28) := ⟨_, rfl⟩
  have E0 := Lib.hid (show w0.cell? ⟨w.heap.size, 0, none⟩ = some (.int .i64 k) by rw [hw0]; simp [go_sem])
  have E1 := Lib.hid (show w0.cell? ⟨w.heap.size, 1, none⟩ = some (.slice A m c) by rw [hw0]; simp [go_sem])
  have T0 := Lib.hid (show Below w.heap.size w w0 by rw [hw0]; exact (Below.refl _ _).alloc (Nat.le_refl _) _)
  have HS0 := Lib.hid (show w0.heap.size = w.heap.size + 1 by rw [hw0]; simp)
  rw [← hw0]
  clear hw0
  have OW0 := Lib.hid (show (w0.alloc (.cells #[] 129)).ownsRow w0.heap.size 129 2 (.slice (some ⟨w0.heap.size, 0, none⟩) 0 0) 0 [] from World.ownsRow_lit w0 #[] 0 (Nat.le_refl _) (by simp [maxLen]) (by simp))
  rw [← HS0.out]
  go_loopw [1, 6] (fun z s wr => ∃ (cur : List UInt8) (n : Nat) (A' : Option Addr) (c' : Nat) (xs : List Value), z = .string ⟨cur.toArray⟩ ∧ s = .slice A' n c' ∧ wr.ownsRow w0.heap.size 129 2 (.slice A' n c') n xs ∧ n + M.rank cur ≤ R ∧ M.Wd k cur ∧ M.normal rs cur = M.normal rs l ∧ Below w0.heap.size w0 wr) (fun z _ _ => rankV z)
  case atStart => exact ⟨l, 0, _, 0, [], rfl, rfl, OW0.out, by rw [HR.out]; omega, HF.out, rfl, (Below.refl _ _).alloc (Nat.le_refl _) _⟩
  case round =>
    obtain ⟨cur, n, A', c', xs, rfl, rfl, hown, hcap, hw, hn, hb⟩ := hrel
    have OW := Lib.hid hown
    have HW := Lib.hid hw
    have HN := Lib.hid hn
    have HB := Lib.hid hb
    have HCP := Lib.hid hcap
    clear hown hw hn hb hcap
    have c0 := cellKeep HB.out E0.out
    have c1 := cellKeep HB.out E1.out
    have RA := Lib.hid (HA.out.below (T0.out.trans (HB.out.mono T0.out.size)))
    have H4 := Lib.hid (fun W h => H1.out cur W h HW.out)
    obtain ⟨z, hz⟩ : ∃ z, z = M.first (M.stepsTo rs cur cur.length) := ⟨_, rfl⟩
    rw [← hz] at H4
    have HZ := Lib.hid hz
    obtain ⟨⟨xr, xp⟩, ok⟩ := z
    clear hz
    simp only at H4
    cases ok
    case false =>
      have HE := Lib.hid (show M.normal rs cur = cur from normal_none (red_none (by rw [← HZ.out])))
      go_wp2_with fail
      refine (H4.out _ RA.out).mono ?_
      rintro e w1 ⟨rfl, hb⟩
      have B1 := Lib.hid (HB.out.trans (hb.mono HB.out.size))
      clear hb
      go_wp2_with fail
      go_ret2
      exact ⟨_, by rw [← HN.out, HE.out]; rfl, T0.out.trans ((B1.out.alloc B1.out.size _).mono T0.out.size)⟩
    case true =>
      have hfst : (M.first (M.stepsTo rs cur cur.length)).2 = true := by rw [← HZ.out]
      have hmem := first_mem hfst
      obtain ⟨i, p, l', hxs, hi, hp, hr, hred, hlt, hw', _⟩ := red_some HO.out HW.out hfst
      rw [hxs, ← HST.out] at hmem
      rw [← HZ.out] at hxs
      injection hxs with hx1 hx2
      subst hx1
      subst hx2
      have HNS := Lib.hid (show M.normal rs l' = M.normal rs l by rw [← HN.out, normal_some hred hlt])
      have HW' := Lib.hid hw'
      have H3 := Lib.hid (show ∀ W, Rd W 2 A m (ruls rs) → Calls Try.prog 145 #[.agg #[.int .i64 k, .slice A m c], .string ⟨cur.toArray⟩, .agg #[.int .i64 (i : Int), .int .i64 (p : Int)]] W (fun e w' => e = .returned (.tuple #[.string ⟨l'.toArray⟩, .bool true]) ∧ Below W.heap.size W w') from fun W h => by
        have h2 := H2.out cur ⟨i, p⟩ W h HW.out
        have hin : M.stepIn ⟨(i : Int), (p : Int)⟩ (M.StepsOf k rs cur) = true := List.any_eq_true.2 ⟨_, hmem, decide_eq_true ⟨rfl, rfl⟩⟩
        rw [apply_yes hin, hr] at h2
        exact h2)
      have HLT := Lib.hid hlt
      have hnn : n < 152587890625 := by have := HCP.out; have := HC.out; omega
      clear hr hred hlt hw' hi hmem hfst
      go_wp2_with fail
      refine (H4.out _ RA.out).mono ?_
      rintro e w1 ⟨rfl, hb⟩
      have B1 := Lib.hid (HB.out.trans (hb.mono HB.out.size))
      have O1 := Lib.hid (own_below OW.out hb)
      have d0 := cellKeep hb c0
      have d1 := cellKeep hb c1
      have RA1 := Lib.hid (RA.out.below hb)
      have AL := Lib.hid ((Below.refl w1.heap.size w1).alloc (Nat.le_refl _) (.cells #[.int .i64 (i : Int), .int .i64 (p : Int)] 129))
      clear hb c0 c1
      have k0 := fun o => allocKeep1 d0 o
      have k1 := fun o => allocKeep1 d1 o
      go_wp2_with fail
      clear k0 k1
      refine (H3.out _ (RA1.out.below AL.out)).mono ?_
      rintro e w2 ⟨rfl, hb⟩
      have a0 : w2.cell? ⟨w1.heap.size, 0, none⟩ = some (.int .i64 (i : Int)) := cellKeep hb (by simp [go_sem])
      have a1 : w2.cell? ⟨w1.heap.size, 1, none⟩ = some (.int .i64 (p : Int)) := cellKeep hb (by simp [go_sem])
      have B2 := Lib.hid (B1.out.trans ((below_alloc1 hb).mono B1.out.size))
      have O2 := Lib.hid (own_below (own_below O1.out AL.out) hb)
      clear hb d0 d1
      go_wp2_with (at_builtin; refine push_law rfl _ _ rfl slStep rfl O2.out (us := [.int .i64 (i : Int), .int .i64 (p : Int)]) rfl rfl (by simp [Value.oneCell']) B2.out rfl (by omega) ?_; intro A5 c5 w5 hown5 hb5)
      have HCP5 := Lib.hid (show n + 1 + M.rank l' ≤ R by have := HCP.out; have := HLT.out; omega)
      go_roundw
      case rel => exact ⟨l', n + 1, A5, c5, _, rfl, rfl, hown5, HCP5.out, HW'.out, HNS.out, hb5⟩
      case measure =>
        rw [rankV_str, rankV_str]
        exact HLT.out
end Go.Proofs.Ytlohpphmamapeaa
