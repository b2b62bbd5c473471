/-
  The contract of the program's pairs.
  Conditions: a system that is ok.
-/
import Derived.Test.YtlohpphmamapeaaPairs
import Derived.Test.YtlohpphmamapeaaMarkL
import Derived.Deep.RegionHeld3
namespace Go.Proofs.Ytlohpphmamapeaa
open Go.RowKit
set_option linter.unusedVariables false
set_option linter.unusedSimpArgs false

/-- A box of a rule. -/
def Boxed (w : World) (g : Nat) (rl rr : List UInt8) : Prop := w.ownsRow 0 84 2 (.slice (some ⟨g, 0, none⟩) 1 1) 1 [.string ⟨rl.toArray⟩, .string ⟨rr.toArray⟩]
theorem boxed_new (w : World) (rl rr : List UInt8) : Boxed (w.alloc (.cells #[.string ⟨rl.toArray⟩, .string ⟨rr.toArray⟩] 84)) w.heap.size rl rr := by
  have h := World.ownsRow_lit (e := 84) (size := 2) (base := 0) w #[.string ⟨rl.toArray⟩, .string ⟨rr.toArray⟩] 1 (Nat.zero_le _) (by simp [maxLen]) (by simp)
  exact h
theorem Boxed.cell {w : World} {g : Nat} {rl rr : List UInt8} (h : Boxed w g rl rr) : w.cell? ⟨g, 0, none⟩ = some (.string ⟨rl.toArray⟩) := by
  have h1 := World.ownsRow.cells h (g := g) rfl 0 _ rfl
  simpa [Addr.add] using h1
theorem Boxed.below {w w' : World} {g : Nat} {rl rr : List UInt8} (h : Boxed w g rl rr) (hb : Below w.heap.size w w') : Boxed w' g rl rr := own_below h hb
theorem Boxed.kept {w w1 w' : World} {g base size n : Nat} {rl rr : List UInt8} {v : Value} {xs : List Value} (h : Boxed w g rl rr) (ho : w.ownsRow base 131 size v n xs) (hb : Below w.heap.size w w1) (hg : w1.grownBy w' v.ownBlock) : Boxed w' g rl rr :=
  (own_below h hb).kept hg (own_apart h ho (by decide))
theorem ints_kept {w w1 w' : World} {base size n m b0 : Nat} {u v : Value} {xs ys : List Value} (h : w.ownsRow b0 3 1 u m ys) (ho : w.ownsRow base 131 size v n xs) (hb : Below w.heap.size w w1) (hg : w1.grownBy w' v.ownBlock) : w'.ownsRow b0 3 1 u m ys :=
  (own_below h hb).kept hg (own_apart h ho (by decide))
def M.insTo (i j : Nat) (f : Int → M.Pair) (ps : List Int) (q : Nat) : List M.Pair := if i = j then [] else (ps.take q).map f
theorem M.insTo_zero (i j : Nat) (f : Int → M.Pair) (ps : List Int) : M.insTo i j f ps 0 = [] := by simp [M.insTo]
theorem M.insTo_ne {i j : Nat} (h : i ≠ j) (f : Int → M.Pair) {ps : List Int} {q : Nat} (hq : q < ps.length) : M.insTo i j f ps (q + 1) = M.insTo i j f ps q ++ [f ps[q]] := by
  unfold M.insTo
  rw [if_neg h, if_neg h, List.take_succ_eq_append_getElem hq, List.map_append]
  rfl
theorem M.insTo_eq (j : Nat) (f : Int → M.Pair) (ps : List Int) (q : Nat) : M.insTo j j f ps q = [] := by simp [M.insTo]
theorem M.insTo_len (i j : Nat) (f : Int → M.Pair) (ps : List Int) (q : Nat) : (M.insTo i j f ps q).length ≤ ps.length := by
  unfold M.insTo
  split
  · simp
  · simp; omega
def M.acTo (f : Int → M.Pair) (ps : List Int) (q : Nat) : List M.Pair := (ps.take q).map f
theorem M.acTo_zero (f : Int → M.Pair) (ps : List Int) : M.acTo f ps 0 = [] := by simp [M.acTo]
theorem M.acTo_add (f : Int → M.Pair) {ps : List Int} {q : Nat} (hq : q < ps.length) : M.acTo f ps (q + 1) = M.acTo f ps q ++ [f ps[q]] := by
  unfold M.acTo
  rw [List.take_succ_eq_append_getElem hq, List.map_append]
  rfl
theorem M.acTo_len (f : Int → M.Pair) (ps : List Int) (q : Nat) : (M.acTo f ps q).length ≤ ps.length := by
  unfold M.acTo
  simp; omega
theorem ins_all {rs : List M.Rule} {i j : Nat} : M.insTo i j (M.inPair rs i j) (M.PlacesOf (M.lft rs i) (M.lft rs j)) (M.PlacesOf (M.lft rs i) (M.lft rs j)).length = M.inside rs i j := by simp [M.insTo, M.inside]
theorem ac_all {rs : List M.Rule} {i j : Nat} : M.acTo (M.acPair rs i j) (M.OverlapsOf (M.lft rs i) (M.lft rs j)) (M.OverlapsOf (M.lft rs i) (M.lft rs j)).length = M.across rs i j := by simp [M.acTo, M.across]
theorem upTo_len {rs : List M.Rule} (h8 : ∀ i, (M.lft rs i).length ≤ 8) (hn : rs.length ≤ 12) {i j : Nat} (hi : i ≤ rs.length) (hj : j ≤ rs.length) : (M.pairTo rs i ++ M.pairRow rs i j).length ≤ 13000 := by
  have h1 := to_len8 h8 hn i
  have h2 := row_len8 h8 i j
  rw [List.length_append]
  omega
theorem step_push {P : Program} {ops : Array Oper} {o : Oper} {a : Act} {K : Act → World → Prop} {Q : Exit → Act → World → Prop} {E : Prop} {w0 W : World} (hgd : o.guard = none) (s x : Operand) {t : TypeId} (ho : o.op = .call { callee := .builtin .append, args := #[s, x], argTypes := #[t, t] }) {e : TypeId} {size : Nat} (T : SlT P t e size)
    {base : Nat} {A : Option Addr} {n c : Nat} {xs : List Value} (hs : a.eval s = .slice A n c) (hown : W.ownsRow base e size (.slice A n c) n xs) {us : List Value} {g : Nat} (hx : a.eval x = .slice (some ⟨g, 0, none⟩) 1 1)
    (hus : us.length = size) (h1 : ∀ u ∈ us, u.oneCell' = true) (hblk : W.heap[g]? = some (.cells us.toArray e (0, 0))) (hb : Below base w0 W) (hw0 : base = w0.heap.size) (hn : n < 1099511627776)
    (h : ∀ A' c' w', w'.ownsRow base e size (.slice A' (n + 1) c') (n + 1) (xs ++ us) → Below base w0 w' → W.grownBy w' (Value.slice A n c).ownBlock → K (a.put o.dst (.slice A' (n + 1) c')) w') :
    if Region.wanted o (yielded ops a.tmps) = true then Oper.wp P o a W K Q else E := by
  obtain ⟨i, z, hi, hz, hsz, hby, hzs⟩ := T.info
  have hbw : base ≤ W.heap.size := by rw [hw0]; exact hb.size
  have hw : Region.wanted o (yielded ops a.tmps) = true := by simp [Region.wanted, hgd]
  rw [if_pos hw]
  refine wp_append_own W s x t ho base e i z size i.bytes T.und hi hz hsz rfl hzs T.pos (.slice A n c) n xs hs hown ⟨g, 0, none⟩ 1 1 us hx (by simpa using hus) (fun j u hu => ?_) h1 (by simp only [maxLen]; omega) ?_ hbw ?_
  · have ha : (⟨g, 0, none⟩ : Addr).add j = ⟨g, j, none⟩ := by unfold Addr.add; split <;> simp_all
    rw [ha, cell_of_row W g j us.toArray e (0, 0) hblk]
    simpa using hu
  · have : (n + 1) * i.bytes ≤ 1099511627776 * 64 := Nat.mul_le_mul (by omega) hby
    omega
  · intro v' w' hown' hg _
    obtain ⟨A', c', rfl⟩ := own_slice hown'
    exact h A' c' w' hown' (hb.grown hg hbw (fun k hk => (hown.lt k hk).1)) hg
theorem far_of {w : World} {base size n g : Nat} {rl rr : List UInt8} {v : Value} {xs : List Value} (h : Boxed w g rl rr) (ho : w.ownsRow base 131 size v n xs) : some g ≠ v.ownBlock := by
  have h1 := own_apart h ho (by decide)
  simpa [Value.ownBlock] using h1
theorem far_new {w : World} {base size n : Nat} {v : Value} {xs : List Value} (ho : w.ownsRow base 131 size v n xs) : some w.heap.size ≠ v.ownBlock := fun h => by
  have h1 := (ho.lt _ h.symm).2
  omega
theorem own_intAt {w : World} {base n c : Nat} {A : Option Addr} {ps : List Int} (h : w.ownsRow base 3 1 (.slice A n c) n (ints ps)) {q : Nat} (hq : q < n) : ∃ b o, A = some ⟨b, o, none⟩ ∧ ∃ hz : q < ps.length, w.cell? ⟨b, o + q, none⟩ = some (.int .i64 ps[q]) := (Rd.of_own h).intAt hq
set_option maxRecDepth 100000 in
set_option maxHeartbeats 8000000 in
theorem pairs_c (k : Int) (A : Option Addr) (c : Nat) (rs : List M.Rule) (w : World) (hA : Rd w 2 A rs.length (ruls rs)) (h12 : rs.length ≤ 12) (h8 : ∀ i, (M.lft rs i).length ≤ 8) :
    Calls Try.prog 104 #[.agg #[.int .i64 k, .slice A rs.length c]] w (RetOwn (fun A c => .slice A (M.pairTo rs rs.length).length c) 131 5 (M.pairTo rs rs.length).length (pairs_ (M.pairTo rs rs.length)) w) := by
  have HA := Lib.hid hA
  have HLB := Lib.hid (fun (i j : Nat) (hi : i ≤ rs.length) (hj : j ≤ rs.length) => upTo_len h8 h12 hi hj)
  have H8 := Lib.hid h8
  clear hA h8
  obtain ⟨zs, hzs⟩ : ∃ zs, zs = M.pairTo rs rs.length := ⟨_, rfl⟩
  have HZ := Lib.hid hzs
  rw [← hzs]
  clear hzs
  obtain ⟨m, hm⟩ : ∃ m, m = rs.length := ⟨_, rfl⟩
  have HM := Lib.hid hm
  rw [← hm] at h12 HA HLB ⊢
  clear hm
  go_enter Try.func104, Try.ntmps104
  go_wp2_with fail
  obtain ⟨w1, hw1⟩ : ∃ w1 : World, w1 = w.alloc (.cells #[.int .i64 k, .slice A m c] 28) := ⟨_, rfl⟩
  have D1 := Lib.hid (show w1.cell? ⟨w.heap.size, 1, none⟩ = some (.slice A m c) by rw [hw1]; simp [go_sem])
  have HB0 := Lib.hid (show Below w.heap.size w w1 by rw [hw1]; exact (Below.refl _ _).alloc (Nat.le_refl _) _)
  have HA1 := Lib.hid (HA.out.below HB0.out)
  have d1 := D1.out
  rw [← hw1]
  clear hw1
  go_wp2_with fail
  clear d1
  go_loopw [3, 16] (fun s z wr => ∃ (i : Nat) (A' : Option Addr) (m' c' : Nat), i ≤ m ∧ z = .int .i64 i ∧ s = .slice A' m' c' ∧ m' = (M.pairTo rs i ++ M.pairRow rs i 0).length ∧ wr.ownsRow w1.heap.size 131 5 (.slice A' m' c') m' (pairs_ (M.pairTo rs i ++ M.pairRow rs i 0)) ∧ Below w1.heap.size w1 wr) (fun _ z _ => m - (intOf z).toNat)
  case atStart => exact ⟨0, none, 0, 0, by omega, rfl, rfl, rfl, World.ownsRow_nil _ _ _ _, Below.refl _ _⟩
  case round =>
    obtain ⟨i, A', m', c', hi, rfl, rfl, hm', hown, hb⟩ := hrel
    have HN := Lib.hid hm'
    have HO := Lib.hid hown
    have HB := Lib.hid hb
    clear hm' hown hb
    by_cases hlt : i < m
    case neg =>
      obtain rfl : i = m := by omega
      have HE := Lib.hid (show M.pairTo rs i ++ M.pairRow rs i 0 = zs by rw [HZ.out, HM.out]; simp [M.pairRow])
      go_wp2
      go_ret
      exact ⟨A', c', by rw [← HE.out, ← HN.out]; rfl, by rw [← HE.out, ← HN.out]; exact own_base HO.out HB0.out.size, HB0.out.trans (HB.out.mono HB0.out.size)⟩
    case pos =>
    obtain ⟨b, o, hA0, hz, hc1, hc2⟩ := (HA1.out.below HB.out).ruleAt (k := i) hlt
    subst hA0
    have HLF := Lib.hid (lft_at hz)
    generalize rs[i] = r at *
    obtain ⟨rl, rr⟩ := r
    simp only at hc1 hc2 HLF
    have hrl : rl.length ≤ 8 := by have h1 := H8.out i; rw [HLF.out] at h1; exact h1
    obtain ⟨wo, hwo⟩ : ∃ wo : World, wo = wr := ⟨_, rfl⟩
    rw [← hwo] at HO HB hc1 hc2 ⊢
    clear hwo
    have d1 : ∀ ob : Obj, (wo.alloc ob).cell? ⟨w.heap.size, 1, none⟩ = some (.slice (some ⟨b, o, none⟩) m c) := fun ob => allocKeep1 (cellKeep HB.out D1.out) ob
    go_wp2_with fail
    clear d1
    obtain ⟨g, hg⟩ : ∃ g, g = wo.heap.size := ⟨_, rfl⟩
    rw [← hg]
    obtain ⟨w2, hw2⟩ : ∃ w2 : World, w2 = wo.alloc (.cells #[.string ⟨rl.toArray⟩, .string ⟨rr.toArray⟩] 84) := ⟨_, rfl⟩
    rw [← hw2]
    have HX2 := Lib.hid (show Boxed w2 g rl rr by rw [hw2, hg]; exact boxed_new wo rl rr)
    have HO2 := Lib.hid (show w2.ownsRow w1.heap.size 131 5 (.slice A' m' c') m' (pairs_ (M.pairTo rs i ++ M.pairRow rs i 0)) by rw [hw2]; exact HO.out.alloc _)
    have HB2 := Lib.hid (show Below w1.heap.size w1 w2 by rw [hw2]; exact HB.out.alloc HB.out.size _)
    clear hw2 hg HO HB hc1 hc2
    go_loopw [3, 24] (fun s z wr => ∃ (j : Nat) (A' : Option Addr) (m' c' : Nat), j ≤ m ∧ z = .int .i64 j ∧ s = .slice A' m' c' ∧ m' = (M.pairTo rs i ++ M.pairRow rs i j).length ∧ wr.ownsRow w1.heap.size 131 5 (.slice A' m' c') m' (pairs_ (M.pairTo rs i ++ M.pairRow rs i j)) ∧ Below w1.heap.size w1 wr ∧ Boxed wr g rl rr) (fun _ z _ => m - (intOf z).toNat)
    case atStart => exact ⟨0, A', m', c', by omega, rfl, rfl, HN.out, HO2.out, HB2.out, HX2.out⟩
    case round =>
      clear HO2 HB2 HX2 HN
      obtain ⟨j, A2, m2, c2, hj, rfl, rfl, hm2, hown, hb, hx⟩ := hrel
      have HN := Lib.hid hm2
      have HO := Lib.hid hown
      have HB := Lib.hid hb
      have HX := Lib.hid hx
      clear hm2 hown hb hx
      by_cases hjm : j < m
      case neg =>
        obtain rfl : j = m := by omega
        have HE := Lib.hid (show M.pairTo rs (i + 1) ++ M.pairRow rs (i + 1) 0 = M.pairTo rs i ++ M.pairRow rs i j by rw [HM.out]; simp [M.pairRow, M.pairTo])
        go_wp2
        go_roundw
        case rel => exact ⟨i + 1, A2, m2, c2, by omega, by go_num, rfl, by rw [HE.out]; exact HN.out, by rw [HE.out]; exact HO.out, HB.out⟩
        case measure => simp [intOf] <;> omega
      case pos =>
      obtain ⟨b', o', e1, hzj, hc1, hc2⟩ := (HA1.out.below HB.out).ruleAt (k := j) hjm
      injection e1 with e1
      injection e1 with e1 e2
      subst e1 e2
      have HLG := Lib.hid (lft_at hzj)
      generalize rs[j] = r at *
      obtain ⟨ql, qr⟩ := r
      simp only at hc1 hc2 HLG
      have hql : ql.length ≤ 8 := by have h1 := H8.out j; rw [HLG.out] at h1; exact h1
      have hnb : m2 ≤ 13000 := by rw [HN.out]; exact HLB.out _ _ hi (Nat.le_of_lt hjm)
      obtain ⟨P0, hP0⟩ : ∃ P0, P0 = M.pairTo rs i ++ M.pairRow rs i j := ⟨_, rfl⟩
      obtain ⟨f, hf⟩ : ∃ f, f = M.inPair rs i j := ⟨_, rfl⟩
      obtain ⟨f', hf'⟩ : ∃ f', f' = M.acPair rs i j := ⟨_, rfl⟩
      obtain ⟨ps, hps⟩ : ∃ ps, ps = M.PlacesOf rl ql := ⟨_, rfl⟩
      obtain ⟨ps', hps'⟩ : ∃ ps', ps' = M.OverlapsOf rl ql := ⟨_, rfl⟩
      have HF := Lib.hid (show ∀ p, f p = ⟨rl, i, 0, j, p⟩ from fun p => by rw [hf, M.inPair, HLF.out])
      have HF' := Lib.hid (show ∀ p, f' p = ⟨rl ++ ql.drop p.toNat, i, 0, j, rl.length - p⟩ from fun p => by rw [hf', M.acPair, HLF.out, HLG.out])
      have HNX := Lib.hid (show M.pairTo rs i ++ M.pairRow rs i (j + 1) = P0 ++ M.insTo i j f ps ps.length ++ M.acTo f' ps' ps'.length by
        rw [M.pairRow, ← ins_all, ← ac_all, HLF.out, HLG.out, ← hf, ← hf', ← hps, ← hps', hP0]; simp)
      have hpl : ps.length ≤ 8 := by rw [hps]; exact Nat.le_trans (places_len _ _) hrl
      have hpl' : ps'.length ≤ 8 := by rw [hps']; exact Nat.le_trans (overlaps_len _ _) hrl
      have HIN := Lib.hid (fun z (h : z ∈ ps) => places_mem (u := rl) (v := ql) (hps ▸ h))
      have HIN' := Lib.hid (fun z (h : z ∈ ps') => overlaps_mem (u := rl) (v := ql) (hps' ▸ h))
      have HC := Lib.hid (fun W => hps ▸ impl_PlacesOf_c rl ql W (by omega) (by omega))
      have HC' := Lib.hid (fun W => hps' ▸ impl_OverlapsOf_c rl ql W (by omega) (by omega))
      rw [← hP0] at HN HO
      clear hP0 hf hf' hps hps'
      obtain ⟨n, hn⟩ : ∃ n, n = ps.length := ⟨_, rfl⟩
      obtain ⟨n', hn'⟩ : ∃ n', n' = ps'.length := ⟨_, rfl⟩
      have HPN := Lib.hid hn
      have HPN' := Lib.hid hn'
      have HIL := Lib.hid (fun q => M.insTo_len i j f ps q)
      have HAL := Lib.hid (fun q => M.acTo_len f' ps' q)
      rw [← hn] at hpl HC HNX HIL
      rw [← hn'] at hpl' HC' HNX HAL
      clear hn hn'
      have d1 : ∀ o : Obj, (wr.alloc o).cell? ⟨g, 0, none⟩ = some (.string ⟨rl.toArray⟩) := fun o => allocKeep1 HX.out.cell o
      go_wp2_with fail
      refine (HC.out _).mono ?_
      rintro e w3 ⟨A3, c3, rfl, hown, hb⟩
      clear d1 hc1 hc2
      obtain ⟨g2, hg2⟩ : ∃ g2, g2 = wr.heap.size := ⟨_, rfl⟩
      rw [← hg2]
      have HX3 := Lib.hid (HX.out.below (below_alloc1 hb))
      have HY3 := Lib.hid (show Boxed w3 g2 ql qr by rw [hg2]; exact (boxed_new wr ql qr).below hb)
      have HO3 := Lib.hid (own_below HO.out (below_alloc1 hb))
      have HB3 := Lib.hid (HB.out.trans ((below_alloc1 hb).mono HB.out.size))
      have HI3 := Lib.hid (own_base hown (Nat.zero_le _))
      clear hb hown hg2 HX HO HB
      go_wp2_with fail
      go_loopw [3, 35] (fun s z wr => ∃ (q : Nat) (A' : Option Addr) (m' c' : Nat), q ≤ n ∧ z = .int .i64 q ∧ s = .slice A' m' c' ∧ m' = (P0 ++ M.insTo i j f ps q).length ∧ wr.ownsRow w1.heap.size 131 5 (.slice A' m' c') m' (pairs_ (P0 ++ M.insTo i j f ps q)) ∧ Below w1.heap.size w1 wr ∧ Boxed wr g rl rr ∧ Boxed wr g2 ql qr ∧ wr.ownsRow 0 3 1 (.slice A3 n c3) n (ints ps)) (fun _ z _ => n - (intOf z).toNat)
      case atStart => exact ⟨0, A2, m2, c2, by omega, rfl, rfl, by rw [M.insTo_zero, List.append_nil]; exact HN.out, by rw [M.insTo_zero, List.append_nil]; exact HO3.out, HB3.out, HX3.out, HY3.out, HI3.out⟩
      case round =>
        clear HX3 HY3 HO3 HB3 HI3
        obtain ⟨q, A4, m4, c4, hq, rfl, rfl, hm4, hown, hb, hx, hy, hii⟩ := hrel
        have HN4 := Lib.hid hm4
        have HO := Lib.hid hown
        have HB := Lib.hid hb
        have HX := Lib.hid hx
        have HY := Lib.hid hy
        have HI := Lib.hid hii
        have hnb4 : m4 ≤ 13008 := by have h1 := HIL.out q; have h2 := HN.out; rw [hm4, List.length_append]; omega
        clear hm4 hown hb hx hy hii
        by_cases hqn : q < n
        case pos =>
          obtain ⟨a1, o1, hA3, hzq, hv⟩ := own_intAt HI.out hqn
          subst hA3
          obtain ⟨z, hzz, hzb⟩ := HIN.out ps[q] (List.getElem_mem hzq)
          by_cases hij : i = j
          case pos =>
            subst hij
            have HE := Lib.hid (show M.insTo i i f ps (q + 1) = M.insTo i i f ps q by rw [M.insTo_eq, M.insTo_eq])
            rw [hzz] at hv
            clear hzz
            have hij' : ((i : Int) != (i : Int)) = false := by simp
            go_wp2_with fail
            go_roundw
            case rel => exact ⟨q + 1, A4, m4, c4, by omega, by go_num, rfl, by rw [HE.out]; exact HN4.out, by rw [HE.out]; exact HO.out, HB.out, HX.out, HY.out, HI.out⟩
            case measure => simp [intOf] <;> omega
          case neg =>
            have HE := Lib.hid (M.insTo_ne hij f hzq)
            have HFZ := Lib.hid (HF.out ps[q])
            rw [hzz] at HE HFZ hv
            generalize f (z : Int) = fz at *
            clear hzz
            have hij' : ((i : Int) != (j : Int)) = true := by simp; omega
            have dx := HX.out.cell
            go_wp2_with (at_builtin; refine push_law_g rfl _ _ rfl slPair rfl HO.out (us := [.string ⟨rl.toArray⟩, .int .i64 i, .int .i64 0, .int .i64 j, .int .i64 z]) rfl rfl (by simp [Value.oneCell']) HB.out rfl (by omega) ?_; intro A5 c5 w5 hown5 hb5 hg5)
            go_roundw
            case rel =>
              have HBA := Lib.hid ((Below.refl wr.heap.size wr).alloc (Nat.le_refl _) (.cells #[.string ⟨rl.toArray⟩, .int .i64 i, .int .i64 0, .int .i64 j, .int .i64 z] 131))
              exact ⟨q + 1, A5, m4 + 1, c5, by omega, by go_num, rfl, by rw [HE.out, ← List.append_assoc, List.length_append, ← HN4.out]; rfl, by rw [HE.out, ← List.append_assoc, pairs_add, HFZ.out]; exact hown5, hb5, HX.out.kept HO.out HBA.out hg5, HY.out.kept HO.out HBA.out hg5, ints_kept HI.out HO.out HBA.out hg5⟩
            case measure => simp [intOf] <;> omega
        case neg =>
          obtain rfl : q = n := by omega
          clear HI
          obtain ⟨P1, hP1⟩ : ∃ P1, P1 = P0 ++ M.insTo i j f ps q := ⟨_, rfl⟩
          rw [← hP1] at HN4 HO HNX
          have HQ1 := Lib.hid hP1
          clear hP1
          have dx := HX.out.cell
          have dy := HY.out.cell
          go_wp2_with fail
          refine (HC'.out _).mono ?_
          rintro e w5 ⟨A5, c5, rfl, hown, hb⟩
          have HX5 := Lib.hid (HX.out.below hb)
          have HY5 := Lib.hid (HY.out.below hb)
          have HO5 := Lib.hid (own_below HO.out hb)
          have HB5 := Lib.hid (HB.out.trans (hb.mono HB.out.size))
          have HI5 := Lib.hid (own_base hown (Nat.zero_le _))
          clear dx dy hb hown HX HY HO HB
          go_wp2_with fail
          go_loopw [3, 60] (fun s z wr => ∃ (q : Nat) (A' : Option Addr) (m' c' : Nat), q ≤ n' ∧ z = .int .i64 q ∧ s = .slice A' m' c' ∧ m' = (P1 ++ M.acTo f' ps' q).length ∧ wr.ownsRow w1.heap.size 131 5 (.slice A' m' c') m' (pairs_ (P1 ++ M.acTo f' ps' q)) ∧ Below w1.heap.size w1 wr ∧ Boxed wr g rl rr ∧ Boxed wr g2 ql qr ∧ wr.ownsRow 0 3 1 (.slice A5 n' c5) n' (ints ps')) (fun _ z _ => n' - (intOf z).toNat)
          case atStart => exact ⟨0, A4, m4, c4, by omega, rfl, rfl, by rw [M.acTo_zero, List.append_nil]; exact HN4.out, by rw [M.acTo_zero, List.append_nil]; exact HO5.out, HB5.out, HX5.out, HY5.out, HI5.out⟩
          case round =>
            clear HX5 HY5 HO5 HB5 HI5
            obtain ⟨p, A6, m6, c6, hp, rfl, rfl, hm6, hown, hb, hx, hy, hii⟩ := hrel
            have HN6 := Lib.hid hm6
            have HO := Lib.hid hown
            have HB := Lib.hid hb
            have HX := Lib.hid hx
            have HY := Lib.hid hy
            have HI := Lib.hid hii
            have hnb6 : m6 ≤ 13016 := by have h1 := HAL.out p; have h2 := HN4.out; rw [hm6, List.length_append]; omega
            clear hm6 hown hb hx hy hii
            by_cases hpn : p < n'
            case neg =>
              obtain rfl : p = n' := by omega
              go_wp2_with fail
              go_roundw
              case rel => exact ⟨j + 1, A6, m6, c6, by omega, by go_num, rfl, by rw [HNX.out]; exact HN6.out, by rw [HNX.out]; exact HO.out, HB.out, HX.out⟩
              case measure => simp [intOf] <;> omega
            case pos =>
              obtain ⟨a1, o1, hA5, hzp, hv⟩ := own_intAt HI.out hpn
              subst hA5
              obtain ⟨z, hzz, hzb, hzc⟩ := HIN'.out ps'[p] (List.getElem_mem hzp)
              have HE := Lib.hid (M.acTo_add f' hzp)
              have HFZ := Lib.hid (HF'.out ps'[p])
              rw [hzz] at HE HFZ hv
              generalize f' (z : Int) = fz at *
              clear hzz
              have hsub : (rl.length : Int) - (z : Int) = ((rl.length - z : Nat) : Int) := by omega
              have dx : ∀ o : Obj, (wr.alloc o).cell? ⟨g, 0, none⟩ = some (.string ⟨rl.toArray⟩) := fun o => allocKeep1 HX.out.cell o
              have dy : ∀ o : Obj, (wr.alloc o).cell? ⟨g2, 0, none⟩ = some (.string ⟨ql.toArray⟩) := fun o => allocKeep1 HY.out.cell o
              have dx0 := HX.out.cell
              go_wp2_with fail
              obtain ⟨wz, hwz⟩ : ∃ wz : World, wz = (wr.alloc (.cells #[.int .i64 j, .int .i64 ((rl.length - z : Nat) : Int)] 129)) := ⟨_, rfl⟩
              have z0 : wz.cell? ⟨wr.heap.size, 0, none⟩ = some (.int .i64 j) := by rw [hwz]; simp [go_sem]
              have z1 : wz.cell? ⟨wr.heap.size, 1, none⟩ = some (.int .i64 ((rl.length - z : Nat) : Int)) := by rw [hwz]; simp [go_sem]
              have z2 : wz.cell? ⟨g, 0, none⟩ = some (.string ⟨rl.toArray⟩) := by rw [hwz]; exact dx _
              have z3 : wz.cell? ⟨g2, 0, none⟩ = some (.string ⟨ql.toArray⟩) := by rw [hwz]; exact dy _
              rw [← hwz]
              have HWZ := Lib.hid hwz
              clear dx dy dx0 hwz
              have hcat : ¬ (9223372036854775807 < rl.length + (ql.length - z)) := by omega
              have ag := far_of HX.out HO.out
              have ag2 := far_of HY.out HO.out
              have an := far_new HO.out
              have HBZ := Lib.hid (show Below wr.heap.size wr wz by rw [HWZ.out]; exact (Below.refl _ _).alloc (Nat.le_refl _) _)
              have HOZ := Lib.hid (own_below HO.out HBZ.out)
              have HBW := Lib.hid (HB.out.trans (HBZ.out.mono HB.out.size))
              clear hv
              go_region_held3 (fun w' => w'.cell? ⟨wr.heap.size, 0, none⟩ = some (.int .i64 j) ∧ w'.cell? ⟨wr.heap.size, 1, none⟩ = some (.int .i64 ((rl.length - z : Nat) : Int)) ∧ w'.cell? ⟨g, 0, none⟩ = some (.string ⟨rl.toArray⟩) ∧ w'.cell? ⟨g2, 0, none⟩ = some (.string ⟨ql.toArray⟩))
                (first | go_keep | (go_split_ands; exact ⟨cellGrown hg7 (by assumption) an, cellGrown hg7 (by assumption) an, cellGrown hg7 (by assumption) ag, cellGrown hg7 (by assumption) ag2⟩))
                ((refine step_push rfl _ _ rfl slPair rfl (own_below HOZ.out (by repeat (first | exact Below.refl _ _ | refine Below.drew ?_ | refine Below.alloc ?_ (by simp <;> omega) _))) (us := [.string ⟨(rl ++ ql.drop z).toArray⟩, .int .i64 i, .int .i64 0, .int .i64 j, .int .i64 ((rl.length - z : Nat) : Int)]) rfl rfl (by simp [Value.oneCell']) (heap_alloc_new wz _) (HBW.out.trans ((show Below wz.heap.size wz _ from (by repeat (first | exact Below.refl _ _ | refine Below.drew ?_ | refine Below.alloc ?_ (by simp <;> omega) _))).mono HBW.out.size)) rfl (by omega) ?_; intro A7 c7 w7 hown7 hb7 hg7))
              all_goals
                clear z0 z1 z2 z3
                go_wp2_with fail
                go_roundw
                case rel =>
                  exact ⟨p + 1, A7, m6 + 1, c7, by omega, by go_num, rfl, by rw [HE.out, ← List.append_assoc, List.length_append, ← HN6.out]; rfl, by rw [HE.out, ← List.append_assoc, pairs_add, HFZ.out, hsub]; exact hown7, hb7, HX.out.kept HO.out (by rw [HWZ.out]; repeat (first | exact Below.refl _ _ | refine Below.drew ?_ | refine Below.alloc ?_ (by simp <;> omega) _)) hg7, HY.out.kept HO.out (by rw [HWZ.out]; repeat (first | exact Below.refl _ _ | refine Below.drew ?_ | refine Below.alloc ?_ (by simp <;> omega) _)) hg7, ints_kept HI.out HO.out (by rw [HWZ.out]; repeat (first | exact Below.refl _ _ | refine Below.drew ?_ | refine Below.alloc ?_ (by simp <;> omega) _)) hg7⟩
                case measure => simp [intOf] <;> omega

end Go.Proofs.Ytlohpphmamapeaa
