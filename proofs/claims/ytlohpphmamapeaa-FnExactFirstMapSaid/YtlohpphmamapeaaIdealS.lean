/-
  Contracts of l09Ideal and l09List.
  Conditions: a valid table, an element of it, one of the three kinds.
-/
import Derived.Test.YtlohpphmamapeaaIdeal
namespace Go.Proofs.Ytlohpphmamapeaa
open Go.RowKit
set_option linter.unusedVariables false
set_option linter.unusedSimpArgs false

/-- A row of bools. -/
def bls (p : Nat → Bool) (n : Nat) : List Value := (List.range n).map fun z => Value.bool (p z)
theorem bls_len (p : Nat → Bool) (n : Nat) : (bls p n).length = n := by simp [bls]
theorem bls_at (p : Nat → Bool) {n z : Nat} (h : z < n) : (bls p n)[z]? = some (.bool (p z)) := by simp [bls, h]
theorem bls_congr {p q : Nat → Bool} {n : Nat} (h : ∀ z, z < n → p z = q z) : bls p n = bls q n := by
  unfold bls
  exact List.map_congr_left fun z hz => by rw [h z (List.mem_range.1 hz)]
theorem bls_set (p : Nat → Bool) (n q : Nat) : (bls p n).set q (.bool true) = bls (fun z => p z || decide (z = q)) n := by
  apply List.ext_getElem?
  intro z
  rw [List.getElem?_set]
  by_cases hz : z < n
  · rw [bls_at (fun z => p z || decide (z = q)) hz]
    by_cases he : q = z
    · subst he
      rw [if_pos rfl, if_pos (by rw [bls_len]; exact hz), decide_eq_true rfl, Bool.or_true]
    · rw [if_neg he, bls_at p hz]
      have : decide (z = q) = false := decide_eq_false (by omega)
      rw [this, Bool.or_false]
  · rw [List.getElem?_eq_none (l := bls (fun z => p z || decide (z = q)) n) (by rw [bls_len]; omega), List.getElem?_eq_none (l := bls p n) (by rw [bls_len]; omega)]
    split
    · split
      · rename_i h1 h2; rw [bls_len] at h2; omega
      · rfl
    · rfl
theorem bls_add (L : List Int) (n q : Nat) : (bls (fun z => L.contains (z : Int)) n).set q (.bool true) = bls (fun z => (L ++ [(q : Int)]).contains (z : Int)) n := by
  rw [bls_set]
  refine bls_congr fun z _ => ?_
  rw [Bool.eq_iff_iff]
  simp
  exact or_congr Iff.rfl (by omega)
theorem slBool : SlT Try.prog 91 4 1 := sl_of Try.underlying91 (by decide) (by kernel_rfl)
theorem boolZero : (Try.prog.info? 4).bind (·.zero) = some (.bool false) := by kernel_rfl
theorem make_bools {ops : Array Oper} {rest : List Oper} {o : Oper} {a : Act} {Q : Exit → Act → World → Prop} {w : World} (hgd : o.guard = none) (l : Operand) (ho : o.op = .makeSlice 91 l l)
    {kl : IntKind} {n : Nat} (hl : a.eval l = .int kl (n : Int)) (hn : n ≤ 1099511627776)
    (h : ∀ w', Own w' w.heap.size 1 (some ⟨w.heap.size, 0, none⟩) n (bls (fun _ => false) n) → Below w.heap.size w w' → wpList Try.prog ops Q rest (a.put o.dst (.slice (some ⟨w.heap.size, 0, none⟩) n n)) w') : wpList Try.prog ops Q (o :: rest) a w := by
  obtain ⟨i, z, hi, hz, hsz, hby, hzs⟩ := slBool.info
  have hzz : z = .bool false := by
    have h1 := boolZero
    rw [hi] at h1
    simp only [Option.bind_some, hz] at h1
    injection h1
  subst hzz
  refine wpList_make_full w hgd l l _ ho w.heap.size _ i _ 1 slBool.und hi hz hsz kl kl n n n hl hl rfl rfl ?_ ?_ (Nat.le_refl _) ?_
  · have := Nat.mul_le_mul hby hn
    omega
  · simp only [maxLen]; omega
  · intro w' hown hg
    refine h w' ?_ ((Below.refl _ _).grown hg (Nat.le_refl _) (by simp))
    have hm : (madeCells (Value.bool false).cells (n * 1)).toList = bls (fun _ => false) n := by
      apply List.ext_getElem?
      intro j
      by_cases hj : j < n
      · rw [bls_at _ hj, Array.getElem?_toList]
        unfold madeCells
        simp [hj, Value.cells, Nat.mod_one]
      · rw [List.getElem?_eq_none (l := bls (fun _ => false) n) (by rw [bls_len]; omega), Array.getElem?_toList, Array.getElem?_eq_none (by simp [madeCells]; omega)]
    rw [hm] at hown
    exact Own.of_row hown

set_option maxRecDepth 100000 in
set_option maxHeartbeats 4000000 in
theorem l09Ideal_c (n : Nat) (A : Option Addr) (c : Nat) (xs : List Int) (i kind : Int) (w : World) (hA : Rd w 1 A xs.length (ints xs)) (hn1 : 1 ≤ n) (hn : n ≤ 40) (hl : xs.length = n * n) (hP : M.InP n xs) (hi : 0 ≤ i ∧ i < n) (hk : kind = 1 ∨ kind = 2 ∨ kind = 3) :
    Calls Try.prog 84 #[.agg #[.int .i64 n, .slice A xs.length c], .int .i64 i, .int .i64 kind] w fun e w' => ∃ r, e = .returned (.slice (some ⟨r, 0, none⟩) n n) ∧ Own w' w.heap.size 1 (some ⟨r, 0, none⟩) n (bls (fun z => (M.rawTo n xs kind i n).contains (z : Int)) n) ∧ Below w.heap.size w w' := by
  have HA := Lib.hid hA
  have HTI := Lib.hid (fun x y hx hy => M.tI_in hP hl (x := x) (y := y) hx hy)
  have HT := Lib.hid (show ∀ (x y : Int) (W : World), Rd W 1 A xs.length (ints xs) → (0 ≤ x ∧ x < n) → (0 ≤ y ∧ y < n) → Calls Try.prog 126 #[.agg #[.int .i64 n, .slice A xs.length c], .int .i64 x, .int .i64 y] W (fun e w' => e = .returned (.int .i64 ((M.tI n xs x y).toNat : Int)) ∧ Below W.heap.size W w') from fun x y W h hx hy => (l08Times_c n A c xs x y W h hn hl hx hy).mono fun e w' ⟨he, hb⟩ => ⟨by rw [he, Int.toNat_of_nonneg (M.tI_in hP hl hx hy).1], hb⟩)
  have HTP := Lib.hid (fun x y W h hx hy => l08Times_c n A c xs x y W h hn hl hx hy)
  have HLX := Lib.hid (show xs.length ≤ 1600 by have := M.sq_le hn; omega)
  clear hA hP hl
  generalize xs.length = xl at *
  go_enter Try.func84, Try.ntmps84
  go_wp2_with (at_make; refine make_bools rfl _ rfl rfl (by omega) ?_; intro w1 ho1 hb1)
  obtain ⟨w0, hw0⟩ : ∃ w0 : World, w0 = w.alloc (.cells #[.int .i64 n, .slice A xl c] 40) := ⟨_, rfl⟩
  obtain ⟨g, hg⟩ : ∃ g, g = w.heap.size := ⟨_, rfl⟩
  have C0 := Lib.hid (show w0.cell? ⟨g, 0, none⟩ = some (.int .i64 n) by rw [hw0, hg]; simp [go_sem])
  have C1 := Lib.hid (show w0.cell? ⟨g, 1, none⟩ = some (.slice A xl c) by rw [hw0, hg]; simp [go_sem])
  have T0 := Lib.hid (show Below w.heap.size w w0 by rw [hw0]; exact (Below.refl _ _).alloc (Nat.le_refl _) _)
  have S0 := Lib.hid (show w0.heap.size = w.heap.size + 1 by rw [hw0]; simp)
  rw [← hw0] at ho1 hb1
  obtain ⟨r, hr⟩ : ∃ r, r = w.heap.size + 1 := ⟨_, rfl⟩
  have HR := Lib.hid (show r = w0.heap.size by rw [hr, S0.out])
  have hgr : g < r := by omega
  rw [← hr]
  try rw [← hg]
  have HO1 := Lib.hid (show Own w1 w0.heap.size 1 (some ⟨r, 0, none⟩) n (bls (fun _ => false) n) by rw [HR.out]; exact ho1)
  have HB1 := Lib.hid hb1
  clear ho1 hb1 hw0 hg hr

  go_loopw [8] (fun z wr => ∃ x : Nat, x ≤ n ∧ z = .int .i64 x ∧ Own wr w0.heap.size 1 (some ⟨r, 0, none⟩) n (bls (fun z => (M.rawTo n xs kind i x).contains (z : Int)) n) ∧ Below w0.heap.size w0 wr) (fun z _ => n - (intOf z).toNat)
  case atStart => exact ⟨0, by omega, rfl, HO1.out, HB1.out⟩
  case round =>
    obtain ⟨x, hx, rfl, hown, hb⟩ := hrel
    have HO := Lib.hid hown
    have HB := Lib.hid hb
    clear hown hb
    have c0 := cellKeep HB.out C0.out
    have c1 := cellKeep HB.out C1.out
    have RA := Lib.hid (HA.out.below (T0.out.trans (HB.out.mono T0.out.size)))
    by_cases hlt : x < n
    case neg =>
      obtain rfl : x = n := by omega
      have hsz := T0.out.size
      go_wp2_with fail
      go_ret
      exact ⟨r, rfl, HO.out.mono hsz, T0.out.trans (HB.out.mono hsz)⟩
    case pos =>
    have hx0 : 0 ≤ (x : Int) ∧ (x : Int) < n := by omega
    rcases hk with rfl | rfl | rfl

    · have HT1 := Lib.hid (fun W h => HT.out i (x : Int) W h hi hx0)
      have hv := HTI.out i (x : Int) hi hx0
      obtain ⟨q, hq⟩ : ∃ q : Nat, q = (M.tI n xs i (x : Int)).toNat := ⟨_, rfl⟩
      have HS := Lib.hid (show M.rawTo n xs 1 i (x + 1) = M.rawTo n xs 1 i x ++ [(q : Int)] by rw [row1, hq, Int.toNat_of_nonneg hv.1])
      rw [← hq] at HT1
      have hqn : q < n := by omega
      clear hq hv
      go_wp2_with fail
      refine (HT1.out _ (RA.out)).mono ?_
      rintro e w2 ⟨rfl, hb⟩
      obtain ⟨hgb, hcs, hfs, hst⟩ := (HO.out.below hb).at0 (by omega)
      have hc1 := hcs q _ (bls_at _ hqn)
      have hf1 := hfs q
      have HST := Lib.hid (hst q (.bool true))
      have HB2 := Lib.hid ((HB.out.trans (hb.mono HB.out.size)).setCell (p := ⟨r, q, none⟩) hgb (.bool true))
      clear hb c0 c1 hcs hfs hst hgb
      go_wp2_with fail
      go_roundw
      case rel => exact ⟨x + 1, by omega, by go_num, by rw [HS.out, ← bls_add]; exact HST.out, HB2.out⟩
      case measure => simp [intOf] <;> omega
    · have HT1 := Lib.hid (fun W h => HT.out (x : Int) i W h hx0 hi)
      have hv := HTI.out (x : Int) i hx0 hi
      obtain ⟨q, hq⟩ : ∃ q : Nat, q = (M.tI n xs (x : Int) i).toNat := ⟨_, rfl⟩
      have HS := Lib.hid (show M.rawTo n xs 2 i (x + 1) = M.rawTo n xs 2 i x ++ [(q : Int)] by rw [row2, hq, Int.toNat_of_nonneg hv.1])
      rw [← hq] at HT1
      have hqn : q < n := by omega
      clear hq hv
      go_wp2_with fail
      refine (HT1.out _ (RA.out)).mono ?_
      rintro e w2 ⟨rfl, hb⟩
      obtain ⟨hgb, hcs, hfs, hst⟩ := (HO.out.below hb).at0 (by omega)
      have hc1 := hcs q _ (bls_at _ hqn)
      have hf1 := hfs q
      have HST := Lib.hid (hst q (.bool true))
      have HB2 := Lib.hid ((HB.out.trans (hb.mono HB.out.size)).setCell (p := ⟨r, q, none⟩) hgb (.bool true))
      clear hb c0 c1 hcs hfs hst hgb
      go_wp2_with fail
      go_roundw
      case rel => exact ⟨x + 1, by omega, by go_num, by rw [HS.out, ← bls_add]; exact HST.out, HB2.out⟩
      case measure => simp [intOf] <;> omega
    · have HS := Lib.hid (row3 n xs i x)
      have hai := HTI.out x i hx0 hi
      have HR0 := Lib.hid (show M.row3To n xs (M.tI n xs x i) 0 = [] from rfl)
      go_wp2_with fail
      clear c0 c1 RA
      go_loopw [9] (fun z wr => ∃ y : Nat, y ≤ n ∧ z = .int .i64 y ∧ Own wr w0.heap.size 1 (some ⟨r, 0, none⟩) n (bls (fun z => (M.rawTo n xs 3 i x ++ M.row3To n xs (M.tI n xs x i) y).contains (z : Int)) n) ∧ Below w0.heap.size w0 wr) (fun z _ => n - (intOf z).toNat)
      case atStart => exact ⟨0, by omega, rfl, by rw [HR0.out, List.append_nil]; exact HO.out, HB.out⟩
      case round =>
        obtain ⟨y, hy, rfl, hown3, hb3⟩ := hrel
        have HO3 := Lib.hid hown3
        have HB3 := Lib.hid hb3
        clear hown3 hb3
        have d0 := cellKeep HB3.out C0.out
        have d1 := cellKeep HB3.out C1.out
        have RA3 := Lib.hid (HA.out.below (T0.out.trans (HB3.out.mono T0.out.size)))
        by_cases hyt : y < n
        case pos =>
          have hy0 : 0 ≤ (y : Int) ∧ (y : Int) < n := by omega
          have hv := HTI.out (M.tI n xs x i) y hai hy0
          have HS3 := Lib.hid (row3_succ n xs (M.tI n xs x i) y)
          obtain ⟨q, hq⟩ := Int.eq_ofNat_of_zero_le hv.1
          have HQ := Lib.hid hq
          have hqn : q < n := by omega
          have hqi : ((q : Nat) : Int) < (n : Int) := by omega
          clear hv
          go_wp2_with fail
          obtain ⟨wz, hwz⟩ : ∃ wz : World, wz = wr := ⟨_, rfl⟩
          rw [← hwz] at d0 d1 RA3 HO3 HB3 ⊢
          clear hwz
          go_region_held3 (fun w' => w'.cell? ⟨g, 0, none⟩ = some (.int .i64 n) ∧ w'.cell? ⟨g, 1, none⟩ = some (.slice A xl c)) (first | exact ⟨d0, d1⟩ | assumption | exact heldB (by assumption) hb4 | exact ⟨(cell_set_ne _ (Or.inl (by omega))).trans (And.left (by assumption)), (cell_set_ne _ (Or.inl (by omega))).trans (And.right (by assumption))⟩) (first | (go_simp; go_at_call 126; refine (HTP.out _ _ _ (by first | exact RA3.out.below (Below.refl _ _).drew | exact RA3.out.below Bz) (by first | exact hx0 | exact hai) (by first | exact hi | exact hy0)).mono ?_; rintro e w4 ⟨rfl, hb4⟩; (first | have Bz := below_then (a := wz) (Below.refl _ _).drew hb4 | have Bz := below_then Bz hb4); have hc1 := ((HO3.out.below Bz).at0 (by omega)).2.1 q _ (bls_at _ hqn); have hf1 := ((HO3.out.below Bz).at0 (by omega)).2.2.1 q))
          all_goals
            go_wp2_with fail
            go_roundw
            case rel => exact ⟨y + 1, by omega, by go_num, by rw [HS3.out, ← List.append_assoc, HQ.out, ← bls_add]; exact ((HO3.out.below Bz).at0 (by omega)).2.2.2 q _, (HB3.out.trans (Bz.mono HB3.out.size)).setCell (by have := HR.out; simp; omega) _⟩
            case measure => simp [intOf] <;> omega
        case neg =>
          obtain rfl : y = n := by omega
          go_wp2_with fail
          go_roundw
          case rel => exact ⟨x + 1, by omega, by go_num, by rw [HS.out]; exact HO3.out, HB3.out⟩
          case measure => simp [intOf] <;> omega
set_option maxRecDepth 100000 in
set_option maxHeartbeats 1000000 in
theorem l09List_c (p : Nat → Bool) (A : Option Addr) (c n : Nat) (w : World) (hA : Rd w 1 A n (bls p n)) (hn : n ≤ 40) :
    Calls Try.prog 70 #[.slice A n c] w (RetRow 3 1 (M.sel p n).length (ints (M.sel p n)) w) := by
  have HA := Lib.hid hA
  clear hA
  go_enter Try.func70, Try.ntmps70
  go_wp2_with fail
  go_loopw [3, 9] (fun s z wr => ∃ (j : Nat) (A' : Option Addr) (c' m : Nat), j ≤ n ∧ z = .int .i64 j ∧ s = .slice A' m c' ∧ m = (M.sel p j).length ∧ wr.ownsRow w.heap.size 3 1 (.slice A' m c') m (ints (M.sel p j)) ∧ Below w.heap.size w wr) (fun _ z _ => n - (intOf z).toNat)
  case atStart => exact ⟨0, _, 0, 0, by omega, rfl, rfl, rfl, World.ownsRow_lit w #[] 0 (Nat.le_refl _) (by simp [maxLen]) (by simp), (Below.refl _ _).alloc (Nat.le_refl _) _⟩
  case round =>
    obtain ⟨j, A', c', m, hj, rfl, rfl, hm, hown, hb⟩ := hrel
    have HM := Lib.hid hm
    have HO := Lib.hid hown
    have HB := Lib.hid hb
    have hml : m ≤ 40 := by have := M.sel_len p j; omega
    clear hm hown hb
    by_cases hlt : j < n
    case neg =>
      obtain rfl : j = n := by omega
      go_wp2_with fail
      go_ret
      exact ⟨A', c', by rw [HM.out]; rfl, by rw [← HM.out]; exact HO.out, HB.out⟩
    case pos =>
      obtain ⟨b, o, rfl, hcs⟩ := (HA.out.below HB.out).2 (by omega)
      have hc := hcs j _ (bls_at _ hlt)
      clear hcs
      cases hp : p j with
      | false =>
        have HS := Lib.hid (M.sel_no hp)
        rw [hp] at hc
        clear hp
        go_wp2_with fail
        go_roundw
        case rel => exact ⟨j + 1, A', c', m, by omega, by go_num, rfl, by rw [HS.out]; exact HM.out, by rw [HS.out]; exact HO.out, HB.out⟩
        case measure => simp [intOf] <;> omega
      | true =>
        have HS := Lib.hid (M.sel_yes hp)
        rw [hp] at hc
        clear hp
        go_wp2_with (at_builtin; refine push_law rfl _ _ rfl slInt rfl HO.out (us := [.int .i64 (j : Int)]) rfl rfl (by simp [Value.oneCell']) HB.out rfl (by omega) ?_; intro A5 c5 w5 hown5 hb5)
        go_roundw
        case rel => exact ⟨j + 1, A5, c5, m + 1, by omega, by go_num, rfl, by rw [HS.out, List.length_append, HM.out]; rfl, by rw [HS.out, ints_snoc]; exact hown5, hb5⟩
        case measure => simp [intOf] <;> omega
end Go.Proofs.Ytlohpphmamapeaa
